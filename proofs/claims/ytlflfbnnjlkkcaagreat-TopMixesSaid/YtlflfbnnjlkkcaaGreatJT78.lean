/- Parts T78, T79 of the abstract machine over this program, joined: what each part says stands at its head. -/
import Derived.Test.YtlflfbnnjlkkcaaGreatJT76
set_option linter.unusedSimpArgs false
set_option linter.unusedVariables false
/- The abstract machine over this program: how far off a mixture can be of a pigment. -/
namespace Go.Am
open Go Go.Proofs
theorem F235_T78 : type_of% (And.intro @fp_151_0 <| And.intro @fp_151_1 <| And.intro @fp_25_0 <| And.intro @fp_25_1 <| And.intro @ld_151 <| And.intro @ld_22 <| And.intro @ld_3 <| And.intro @ld_43 <| And.intro @size_25 @zero_25) := And.intro @fp_151_0 <| And.intro @fp_151_1 <| And.intro @fp_25_0 <| And.intro @fp_25_1 <| And.intro @ld_151 <| And.intro @ld_22 <| And.intro @ld_3 <| And.intro @ld_43 <| And.intro @size_25 @zero_25

theorem prods_b {g : Tin → Int} {l : List Int} {ts : List Tin} (hl : l.length ≤ 4) (h1 : ∀ n ∈ l, inP n 0 8 = true) (h2 : ∀ t ∈ ts, 0 ≤ g t ∧ g t ≤ 99) : 0 ≤ sumI (prods g l ts) ∧ sumI (prods g l ts) ≤ 4 * 792 := by
  have hb : ∀ x ∈ prods g l ts, 0 ≤ x ∧ x ≤ 792 := by
    intro x hx
    obtain ⟨j, hj⟩ := List.mem_iff_getElem?.1 hx
    unfold prods at hj
    rw [List.getElem?_zipWith] at hj
    cases e1 : l[j]? with
    | none => rw [e1] at hj; cases hj
    | some n =>
      cases e2 : ts[j]? with
      | none => rw [e1, e2] at hj; cases hj
      | some t =>
        rw [e1, e2] at hj
        have hj : some (n * g t) = some x := hj
        have hj := Option.some.inj hj
        have bn := of_decide_eq_true (h1 n (List.mem_of_getElem? e1))
        have bt := h2 t (List.mem_of_getElem? e2)
        have bm : 0 ≤ n * g t ∧ n * g t ≤ 8 * 99 := ⟨Int.mul_nonneg bn.1 bt.1, Int.mul_le_mul bn.2 bt.2 bt.1 (by omega)⟩
        omega
  have hlen : (prods g l ts).length ≤ 4 := by unfold prods; rw [List.length_zipWith]; omega
  have := sumI_bound hb
  omega
/-- by how much, out of how much there is at least and at most, and how many parts -/
def farV (lo hi parts bl bh : Int) : Int := if hi - parts * bl < parts * bh - lo then parts * bh - lo else hi - parts * bl
set_option maxRecDepth 10000 in
set_option maxHeartbeats 1000000 in
theorem far_0 {v w : Value} {s : TintS} {l : List Int} {y : Int} {h : Heap} (hk : HOK h) (hp : 0 < h.next) (hv : LS h v s.tins Tin.cells 6) (hw : LS h w l ints 1) (G : s.Good) (M : MixGood s l) (hy : 0 ≤ y ∧ y ≤ 20) :
    CW CC 235 [.agg ⟨potC s v w⟩, .int .i64 0, .int .i64 y] h fun r h' => r = .int .i64 (farV (sumI (prods (fun t => t.a.lo) l s.tins)) (sumI (prods (fun t => t.a.hi) l s.tins)) (sumI l) (leftP s.o1 y s.f1.hi) (leftP s.o1 y s.f1.lo)) ∧ Fr h h' := by
  have hl4 : l.length ≤ 4 := by rw [M.len]; have := of_decide_eq_true G.tins; omega
  obtain ⟨ho, hf, ha⟩ := G.parts 0 (by omega)
  have ho : inP s.o1 0 99 = true := ho
  have hf : spanP s.f1.lo s.f1.hi 9 = true := hf
  have bo := of_decide_eq_true ho
  have bf := span_b hf
  have b1 := left_b s.o1 y s.f1.hi bo hy ⟨bf.2.2, bf.2.1.2⟩
  have b2 := left_b s.o1 y s.f1.lo bo hy bf.1
  have bt : ∀ t ∈ s.tins, (0 ≤ t.a.lo ∧ t.a.lo ≤ 99) ∧ (0 ≤ t.a.hi ∧ t.a.hi ≤ 99) := fun t ht => by
    have := span_b (show spanP t.a.lo t.a.hi 99 = true from List.all_eq_true.1 ha t ht)
    omega
  have bL := prods_b (g := fun t => t.a.lo) hl4 M.all fun t ht => (bt t ht).1
  have bH := prods_b (g := fun t => t.a.hi) hl4 M.all fun t ht => (bt t ht).2
  have bP := of_decide_eq_true M.sum
  obtain ⟨L, hL⟩ : ∃ L, L = (sumI (prods (fun t => t.a.lo) l s.tins)) := ⟨_, rfl⟩
  obtain ⟨H, hH⟩ : ∃ H, H = (sumI (prods (fun t => t.a.hi) l s.tins)) := ⟨_, rfl⟩
  obtain ⟨P, hP⟩ : ∃ P, P = sumI l := ⟨_, rfl⟩
  obtain ⟨b, hb⟩ : ∃ b, b = (leftP s.o1 y s.f1.hi) := ⟨_, rfl⟩
  obtain ⟨B, hB⟩ : ∃ b, b = (leftP s.o1 y s.f1.lo) := ⟨_, rfl⟩
  have bx : 0 ≤ P * b ∧ P * b ≤ 8 * 99 := ⟨Int.mul_nonneg (by omega) (by omega), Int.mul_le_mul (by omega) (by omega) (by omega) (by omega)⟩
  have bX : 0 ≤ P * B ∧ P * B ≤ 8 * 99 := ⟨Int.mul_nonneg (by omega) (by omega), Int.mul_le_mul (by omega) (by omega) (by omega) (by omega)⟩
  rw [← hL] at bL
  rw [← hH] at bH
  have has := fun {h : Heap} (hk : HOK h) (hp : 0 < h.next) (hv : LS h v s.tins Tin.cells 6) (hw : LS h w l ints 1) => has_0 hk hp hv hw G M
  rw [← hL, ← hH] at has
  have board := fun {h : Heap} (hk : HOK h) => board_0 (v := v) (y := y) hk G hy
  rw [← hb, ← hB] at board
  rw [← hL, ← hH, ← hP, ← hb, ← hB]
  obtain ⟨q, c, rfl, _⟩ := hv.open
  obtain ⟨q', c', rfl, _⟩ := hw.open
  refine CW_in Tryz.f235 (by kernel_rfl) (by kernel_rfl) rfl rfl ?_
  simp only [Tryz.f235]
  obtain ⟨R, hR⟩ : ∃ R, R = potC s (.slice q s.tins.length c) (.slice q' l.length c') := ⟨_, rfl⟩
  obtain ⟨K, hK⟩ : ∃ K, K = s.cells (.slice q s.tins.length c) := ⟨_, rfl⟩
  have t1 : take? R 0 14 = some R := by rw [hR]; rfl
  have t2 : take? R 0 13 = some K := by rw [hR, hK]; rfl
  have c2 : R[13]? = some (.slice q' l.length c') := by rw [hR]; rfl
  have sf : R.all selfC = true := by rw [hR]; rfl
  have sk : K.all selfC = true := by rw [hK]; rfl
  rw [← hR] at has
  rw [← hK] at board
  rw [← hR]
  clear hR hK
  have f1 : Fr h (h.alloc (.row R 0 true)) := (Fr.refl hk).alloc _
  have r1 : rowAt (h.alloc (.row R 0 true)) h.next = some R := rowAt_new _ _ _ _
  have m1 : (h.alloc (.row R 0 true)).next = h.next + 1 := by simp
  simp (maxDischargeDepth := 30) only [AMS, AMH, ↓reduceIte, Nat.reduceLT, Nat.reduceEqDiff, Nat.reduceAdd, Nat.reduceMul, reduceCtorEq, decide_true, decide_false, Nat.reduceLeDiff, Int.reduceNe, Int.reduceEq, ne_eq, not_false_eq_true, and_self, F235_T78, hk]
  generalize (h.alloc (.row R 0 true)) = h1 at f1 r1 m1 ⊢
  have k1 := f1.ok
  refine W_draw [(true, 0), (true, 1), (true, 3), (true, 4), (true, 5), (true, 6), (true, 8), (true, 9), (true, 11), (true, 12), (true, 2), (false, 4), (false, 9), (false, 11), (false, 12), (true, 7), (false, 9), (false, 11), (false, 12), (true, 10), (false, 11), (false, 12), (true, 13), (true, 14), (true, 15)] (by kernel_rfl) ?_
  have fz := ((Fr.refl k1).alloc (.row [.int .i64 0, .int .i64 0] 0 true)).alloc (.row [.int .i64 0, .int .i64 0] 0 true)
  have z1 : ((h1.alloc (.row [.int .i64 0, .int .i64 0] 0 true)).alloc (.row [.int .i64 0, .int .i64 0] 0 true)).get h1.next = some (.row [.int .i64 0, .int .i64 0] 0 true) := by rw [get_old _ (by simp)]; exact get_at _ rfl
  have z2 : ((h1.alloc (.row [.int .i64 0, .int .i64 0] 0 true)).alloc (.row [.int .i64 0, .int .i64 0] 0 true)).get (h1.next + 1) = some (.row [.int .i64 0, .int .i64 0] 0 true) := get_at _ (by simp)
  have m2 : ((h1.alloc (.row [.int .i64 0, .int .i64 0] 0 true)).alloc (.row [.int .i64 0, .int .i64 0] 0 true)).next = h1.next + 2 := by simp
  simp (maxDischargeDepth := 30) only [AMS, AMH, ↓reduceIte, Nat.reduceLT, Nat.reduceEqDiff, Nat.reduceAdd, Nat.reduceMul, reduceCtorEq, decide_true, decide_false, Nat.reduceLeDiff, Int.reduceNe, Int.reduceEq, ne_eq, not_false_eq_true, and_self, AMR, F235_T78, k1, r1, t1, t2, c2, sf, sk]
  generalize ((h1.alloc (.row [.int .i64 0, .int .i64 0] 0 true)).alloc (.row [.int .i64 0, .int .i64 0] 0 true)) = h2 at fz z1 z2 m2 ⊢
  have k2 := fz.ok
  have r2 := fz.row' k1 r1
  have f2 := f1.trans fz
  refine W_callP (has k2 (by omega) (hv.fr hk f2) (hw.fr hk f2)) ?_
  rintro _ h3 ⟨rfl, fr3⟩
  have f3 := f2.trans fr3
  have k3 := fr3.ok
  have r3 := fr3.row' k2 r2
  have y1 := fr3.get' k2 z1
  have y2 := fr3.get' k2 z2
  simp (maxDischargeDepth := 30) only [AMS, AMH, ↓reduceIte, Nat.reduceLT, Nat.reduceEqDiff, Nat.reduceAdd, Nat.reduceMul, reduceCtorEq, decide_true, decide_false, Nat.reduceLeDiff, Int.reduceNe, Int.reduceEq, ne_eq, not_false_eq_true, and_self, AMR, F235_T78, k3, r3, t1, t2, c2, sf, sk, y1, y2]
  refine W_callP (board k3) ?_
  rintro _ h4 ⟨rfl, fr4⟩
  have f4 := f3.trans fr4
  have k4 := fr4.ok
  have r4 := fr4.row' k3 r3
  have x1 := fr4.get' k3 y1
  have x2 := fr4.get' k3 y2
  simp (maxDischargeDepth := 30) only [AMS, AMH, ↓reduceIte, Nat.reduceLT, Nat.reduceEqDiff, Nat.reduceAdd, Nat.reduceMul, reduceCtorEq, decide_true, decide_false, Nat.reduceLeDiff, Int.reduceNe, Int.reduceEq, ne_eq, not_false_eq_true, and_self, AMR, F235_T78, k4, r4, t1, t2, c2, sf, sk, x1, x2]
  refine W_callP (sum_t _ (hw.fr hk f4) (by omega) M.bound) ?_
  rintro _ h4 ⟨rfl, rfl⟩
  rw [← hP]
  have u1 : (h4.set h1.next (.row [.int .i64 L, .int .i64 H] 0 true)).get (h1.next + 1) = some (.row [.int .i64 0, .int .i64 0] 0 true) := by rw [Heap.get_set_ne _ _ (by omega)]; exact x2
  have v1 : rowAt ((h4.set h1.next (.row [.int .i64 L, .int .i64 H] 0 true)).set (h1.next + 1) (.row [.int .i64 b, .int .i64 B] 0 true)) h1.next = some [.int .i64 L, .int .i64 H] := by rw [rowAt_set_lt _ (by omega)]; exact rowAt_set_self _ _ _ _ _
  have v2 : rowAt ((h4.set h1.next (.row [.int .i64 L, .int .i64 H] 0 true)).set (h1.next + 1) (.row [.int .i64 b, .int .i64 B] 0 true)) (h1.next + 1) = some [.int .i64 b, .int .i64 B] := rowAt_set_self _ _ _ _ _
  have w1 : IntKind.i64.wrap (P * b) = P * b := wrap64 (by omega) (by omega)
  have w2 : IntKind.i64.wrap (P * B) = P * B := wrap64 (by omega) (by omega)
  have w3 : IntKind.i64.wrap (H - P * b) = H - P * b := wrap64 (by omega) (by omega)
  have w4 : IntKind.i64.wrap (P * B - L) = P * B - L := wrap64 (by omega) (by omega)
  have mx : foldV max2 [.int .i64 (P * B - L)] (.int .i64 (H - P * b)) = some (.int .i64 (farV L H P b B)) := rfl
  have fe : Fr h ((h4.set h1.next (.row [.int .i64 L, .int .i64 H] 0 true)).set (h1.next + 1) (.row [.int .i64 b, .int .i64 B] 0 true)) := (f4.set (by omega) (get_lt k4 x1) _).set (by omega) (by rw [Heap.next_set]; exact get_lt k4 x2) _
  simp (maxDischargeDepth := 30) only [AMS, AMH, ↓reduceIte, Nat.reduceLT, Nat.reduceEqDiff, Nat.reduceAdd, Nat.reduceMul, reduceCtorEq, decide_true, decide_false, Nat.reduceLeDiff, Int.reduceNe, Int.reduceEq, ne_eq, not_false_eq_true, and_self, AMR, F235_T78, k4, r4, t1, t2, c2, sf, sk, x1, x2, u1, List.set_cons_zero]
  generalize ((h4.set h1.next (.row [.int .i64 L, .int .i64 H] 0 true)).set (h1.next + 1) (.row [.int .i64 b, .int .i64 B] 0 true)) = h6 at v1 v2 fe ⊢
  simp (maxDischargeDepth := 30) only [AMS, AMH, ↓reduceIte, Nat.reduceLT, Nat.reduceEqDiff, Nat.reduceAdd, Nat.reduceMul, reduceCtorEq, decide_true, decide_false, Nat.reduceLeDiff, Int.reduceNe, Int.reduceEq, ne_eq, not_false_eq_true, and_self, F235_T78, fe.ok, v1, v2, w1, w2, w3, w4, mx]
  exact ⟨by first | rfl | trivial, fe⟩
set_option maxRecDepth 10000 in
set_option maxHeartbeats 1000000 in
theorem far_1 {v w : Value} {s : TintS} {l : List Int} {y : Int} {h : Heap} (hk : HOK h) (hp : 0 < h.next) (hv : LS h v s.tins Tin.cells 6) (hw : LS h w l ints 1) (G : s.Good) (M : MixGood s l) (hy : 0 ≤ y ∧ y ≤ 20) :
    CW CC 235 [.agg ⟨potC s v w⟩, .int .i64 1, .int .i64 y] h fun r h' => r = .int .i64 (farV (sumI (prods (fun t => t.b.lo) l s.tins)) (sumI (prods (fun t => t.b.hi) l s.tins)) (sumI l) (leftP s.o2 y s.f2.hi) (leftP s.o2 y s.f2.lo)) ∧ Fr h h' := by
  have hl4 : l.length ≤ 4 := by rw [M.len]; have := of_decide_eq_true G.tins; omega
  obtain ⟨ho, hf, ha⟩ := G.parts 1 (by omega)
  have ho : inP s.o2 0 99 = true := ho
  have hf : spanP s.f2.lo s.f2.hi 9 = true := hf
  have bo := of_decide_eq_true ho
  have bf := span_b hf
  have b1 := left_b s.o2 y s.f2.hi bo hy ⟨bf.2.2, bf.2.1.2⟩
  have b2 := left_b s.o2 y s.f2.lo bo hy bf.1
  have bt : ∀ t ∈ s.tins, (0 ≤ t.b.lo ∧ t.b.lo ≤ 99) ∧ (0 ≤ t.b.hi ∧ t.b.hi ≤ 99) := fun t ht => by
    have := span_b (show spanP t.b.lo t.b.hi 99 = true from List.all_eq_true.1 ha t ht)
    omega
  have bL := prods_b (g := fun t => t.b.lo) hl4 M.all fun t ht => (bt t ht).1
  have bH := prods_b (g := fun t => t.b.hi) hl4 M.all fun t ht => (bt t ht).2
  have bP := of_decide_eq_true M.sum
  obtain ⟨L, hL⟩ : ∃ L, L = (sumI (prods (fun t => t.b.lo) l s.tins)) := ⟨_, rfl⟩
  obtain ⟨H, hH⟩ : ∃ H, H = (sumI (prods (fun t => t.b.hi) l s.tins)) := ⟨_, rfl⟩
  obtain ⟨P, hP⟩ : ∃ P, P = sumI l := ⟨_, rfl⟩
  obtain ⟨b, hb⟩ : ∃ b, b = (leftP s.o2 y s.f2.hi) := ⟨_, rfl⟩
  obtain ⟨B, hB⟩ : ∃ b, b = (leftP s.o2 y s.f2.lo) := ⟨_, rfl⟩
  have bx : 0 ≤ P * b ∧ P * b ≤ 8 * 99 := ⟨Int.mul_nonneg (by omega) (by omega), Int.mul_le_mul (by omega) (by omega) (by omega) (by omega)⟩
  have bX : 0 ≤ P * B ∧ P * B ≤ 8 * 99 := ⟨Int.mul_nonneg (by omega) (by omega), Int.mul_le_mul (by omega) (by omega) (by omega) (by omega)⟩
  rw [← hL] at bL
  rw [← hH] at bH
  have has := fun {h : Heap} (hk : HOK h) (hp : 0 < h.next) (hv : LS h v s.tins Tin.cells 6) (hw : LS h w l ints 1) => has_1 hk hp hv hw G M
  rw [← hL, ← hH] at has
  have board := fun {h : Heap} (hk : HOK h) => board_1 (v := v) (y := y) hk G hy
  rw [← hb, ← hB] at board
  rw [← hL, ← hH, ← hP, ← hb, ← hB]
  obtain ⟨q, c, rfl, _⟩ := hv.open
  obtain ⟨q', c', rfl, _⟩ := hw.open
  refine CW_in Tryz.f235 (by kernel_rfl) (by kernel_rfl) rfl rfl ?_
  simp only [Tryz.f235]
  obtain ⟨R, hR⟩ : ∃ R, R = potC s (.slice q s.tins.length c) (.slice q' l.length c') := ⟨_, rfl⟩
  obtain ⟨K, hK⟩ : ∃ K, K = s.cells (.slice q s.tins.length c) := ⟨_, rfl⟩
  have t1 : take? R 0 14 = some R := by rw [hR]; rfl
  have t2 : take? R 0 13 = some K := by rw [hR, hK]; rfl
  have c2 : R[13]? = some (.slice q' l.length c') := by rw [hR]; rfl
  have sf : R.all selfC = true := by rw [hR]; rfl
  have sk : K.all selfC = true := by rw [hK]; rfl
  rw [← hR] at has
  rw [← hK] at board
  rw [← hR]
  clear hR hK
  have f1 : Fr h (h.alloc (.row R 0 true)) := (Fr.refl hk).alloc _
  have r1 : rowAt (h.alloc (.row R 0 true)) h.next = some R := rowAt_new _ _ _ _
  have m1 : (h.alloc (.row R 0 true)).next = h.next + 1 := by simp
  simp (maxDischargeDepth := 30) only [AMS, AMH, ↓reduceIte, Nat.reduceLT, Nat.reduceEqDiff, Nat.reduceAdd, Nat.reduceMul, reduceCtorEq, decide_true, decide_false, Nat.reduceLeDiff, Int.reduceNe, Int.reduceEq, ne_eq, not_false_eq_true, and_self, F235_T78, hk]
  generalize (h.alloc (.row R 0 true)) = h1 at f1 r1 m1 ⊢
  have k1 := f1.ok
  refine W_draw [(true, 0), (true, 1), (true, 3), (true, 4), (true, 5), (true, 6), (true, 8), (true, 9), (true, 11), (true, 12), (true, 2), (false, 4), (false, 9), (false, 11), (false, 12), (true, 7), (false, 9), (false, 11), (false, 12), (true, 10), (false, 11), (false, 12), (true, 13), (true, 14), (true, 15)] (by kernel_rfl) ?_
  have fz := ((Fr.refl k1).alloc (.row [.int .i64 0, .int .i64 0] 0 true)).alloc (.row [.int .i64 0, .int .i64 0] 0 true)
  have z1 : ((h1.alloc (.row [.int .i64 0, .int .i64 0] 0 true)).alloc (.row [.int .i64 0, .int .i64 0] 0 true)).get h1.next = some (.row [.int .i64 0, .int .i64 0] 0 true) := by rw [get_old _ (by simp)]; exact get_at _ rfl
  have z2 : ((h1.alloc (.row [.int .i64 0, .int .i64 0] 0 true)).alloc (.row [.int .i64 0, .int .i64 0] 0 true)).get (h1.next + 1) = some (.row [.int .i64 0, .int .i64 0] 0 true) := get_at _ (by simp)
  have m2 : ((h1.alloc (.row [.int .i64 0, .int .i64 0] 0 true)).alloc (.row [.int .i64 0, .int .i64 0] 0 true)).next = h1.next + 2 := by simp
  simp (maxDischargeDepth := 30) only [AMS, AMH, ↓reduceIte, Nat.reduceLT, Nat.reduceEqDiff, Nat.reduceAdd, Nat.reduceMul, reduceCtorEq, decide_true, decide_false, Nat.reduceLeDiff, Int.reduceNe, Int.reduceEq, ne_eq, not_false_eq_true, and_self, AMR, F235_T78, k1, r1, t1, t2, c2, sf, sk]
  generalize ((h1.alloc (.row [.int .i64 0, .int .i64 0] 0 true)).alloc (.row [.int .i64 0, .int .i64 0] 0 true)) = h2 at fz z1 z2 m2 ⊢
  have k2 := fz.ok
  have r2 := fz.row' k1 r1
  have f2 := f1.trans fz
  refine W_callP (has k2 (by omega) (hv.fr hk f2) (hw.fr hk f2)) ?_
  rintro _ h3 ⟨rfl, fr3⟩
  have f3 := f2.trans fr3
  have k3 := fr3.ok
  have r3 := fr3.row' k2 r2
  have y1 := fr3.get' k2 z1
  have y2 := fr3.get' k2 z2
  simp (maxDischargeDepth := 30) only [AMS, AMH, ↓reduceIte, Nat.reduceLT, Nat.reduceEqDiff, Nat.reduceAdd, Nat.reduceMul, reduceCtorEq, decide_true, decide_false, Nat.reduceLeDiff, Int.reduceNe, Int.reduceEq, ne_eq, not_false_eq_true, and_self, AMR, F235_T78, k3, r3, t1, t2, c2, sf, sk, y1, y2]
  refine W_callP (board k3) ?_
  rintro _ h4 ⟨rfl, fr4⟩
  have f4 := f3.trans fr4
  have k4 := fr4.ok
  have r4 := fr4.row' k3 r3
  have x1 := fr4.get' k3 y1
  have x2 := fr4.get' k3 y2
  simp (maxDischargeDepth := 30) only [AMS, AMH, ↓reduceIte, Nat.reduceLT, Nat.reduceEqDiff, Nat.reduceAdd, Nat.reduceMul, reduceCtorEq, decide_true, decide_false, Nat.reduceLeDiff, Int.reduceNe, Int.reduceEq, ne_eq, not_false_eq_true, and_self, AMR, F235_T78, k4, r4, t1, t2, c2, sf, sk, x1, x2]
  refine W_callP (sum_t _ (hw.fr hk f4) (by omega) M.bound) ?_
  rintro _ h4 ⟨rfl, rfl⟩
  rw [← hP]
  have u1 : (h4.set h1.next (.row [.int .i64 L, .int .i64 H] 0 true)).get (h1.next + 1) = some (.row [.int .i64 0, .int .i64 0] 0 true) := by rw [Heap.get_set_ne _ _ (by omega)]; exact x2
  have v1 : rowAt ((h4.set h1.next (.row [.int .i64 L, .int .i64 H] 0 true)).set (h1.next + 1) (.row [.int .i64 b, .int .i64 B] 0 true)) h1.next = some [.int .i64 L, .int .i64 H] := by rw [rowAt_set_lt _ (by omega)]; exact rowAt_set_self _ _ _ _ _
  have v2 : rowAt ((h4.set h1.next (.row [.int .i64 L, .int .i64 H] 0 true)).set (h1.next + 1) (.row [.int .i64 b, .int .i64 B] 0 true)) (h1.next + 1) = some [.int .i64 b, .int .i64 B] := rowAt_set_self _ _ _ _ _
  have w1 : IntKind.i64.wrap (P * b) = P * b := wrap64 (by omega) (by omega)
  have w2 : IntKind.i64.wrap (P * B) = P * B := wrap64 (by omega) (by omega)
  have w3 : IntKind.i64.wrap (H - P * b) = H - P * b := wrap64 (by omega) (by omega)
  have w4 : IntKind.i64.wrap (P * B - L) = P * B - L := wrap64 (by omega) (by omega)
  have mx : foldV max2 [.int .i64 (P * B - L)] (.int .i64 (H - P * b)) = some (.int .i64 (farV L H P b B)) := rfl
  have fe : Fr h ((h4.set h1.next (.row [.int .i64 L, .int .i64 H] 0 true)).set (h1.next + 1) (.row [.int .i64 b, .int .i64 B] 0 true)) := (f4.set (by omega) (get_lt k4 x1) _).set (by omega) (by rw [Heap.next_set]; exact get_lt k4 x2) _
  simp (maxDischargeDepth := 30) only [AMS, AMH, ↓reduceIte, Nat.reduceLT, Nat.reduceEqDiff, Nat.reduceAdd, Nat.reduceMul, reduceCtorEq, decide_true, decide_false, Nat.reduceLeDiff, Int.reduceNe, Int.reduceEq, ne_eq, not_false_eq_true, and_self, AMR, F235_T78, k4, r4, t1, t2, c2, sf, sk, x1, x2, u1, List.set_cons_zero]
  generalize ((h4.set h1.next (.row [.int .i64 L, .int .i64 H] 0 true)).set (h1.next + 1) (.row [.int .i64 b, .int .i64 B] 0 true)) = h6 at v1 v2 fe ⊢
  simp (maxDischargeDepth := 30) only [AMS, AMH, ↓reduceIte, Nat.reduceLT, Nat.reduceEqDiff, Nat.reduceAdd, Nat.reduceMul, reduceCtorEq, decide_true, decide_false, Nat.reduceLeDiff, Int.reduceNe, Int.reduceEq, ne_eq, not_false_eq_true, and_self, F235_T78, fe.ok, v1, v2, w1, w2, w3, w4, mx]
  exact ⟨by first | rfl | trivial, fe⟩
set_option maxRecDepth 10000 in
set_option maxHeartbeats 1000000 in
theorem far_2 {v w : Value} {s : TintS} {l : List Int} {y : Int} {h : Heap} (hk : HOK h) (hp : 0 < h.next) (hv : LS h v s.tins Tin.cells 6) (hw : LS h w l ints 1) (G : s.Good) (M : MixGood s l) (hy : 0 ≤ y ∧ y ≤ 20) :
    CW CC 235 [.agg ⟨potC s v w⟩, .int .i64 2, .int .i64 y] h fun r h' => r = .int .i64 (farV (sumI (prods (fun t => t.c.lo) l s.tins)) (sumI (prods (fun t => t.c.hi) l s.tins)) (sumI l) (leftP s.o3 y s.f3.hi) (leftP s.o3 y s.f3.lo)) ∧ Fr h h' := by
  have hl4 : l.length ≤ 4 := by rw [M.len]; have := of_decide_eq_true G.tins; omega
  obtain ⟨ho, hf, ha⟩ := G.parts 2 (by omega)
  have ho : inP s.o3 0 99 = true := ho
  have hf : spanP s.f3.lo s.f3.hi 9 = true := hf
  have bo := of_decide_eq_true ho
  have bf := span_b hf
  have b1 := left_b s.o3 y s.f3.hi bo hy ⟨bf.2.2, bf.2.1.2⟩
  have b2 := left_b s.o3 y s.f3.lo bo hy bf.1
  have bt : ∀ t ∈ s.tins, (0 ≤ t.c.lo ∧ t.c.lo ≤ 99) ∧ (0 ≤ t.c.hi ∧ t.c.hi ≤ 99) := fun t ht => by
    have := span_b (show spanP t.c.lo t.c.hi 99 = true from List.all_eq_true.1 ha t ht)
    omega
  have bL := prods_b (g := fun t => t.c.lo) hl4 M.all fun t ht => (bt t ht).1
  have bH := prods_b (g := fun t => t.c.hi) hl4 M.all fun t ht => (bt t ht).2
  have bP := of_decide_eq_true M.sum
  obtain ⟨L, hL⟩ : ∃ L, L = (sumI (prods (fun t => t.c.lo) l s.tins)) := ⟨_, rfl⟩
  obtain ⟨H, hH⟩ : ∃ H, H = (sumI (prods (fun t => t.c.hi) l s.tins)) := ⟨_, rfl⟩
  obtain ⟨P, hP⟩ : ∃ P, P = sumI l := ⟨_, rfl⟩
  obtain ⟨b, hb⟩ : ∃ b, b = (leftP s.o3 y s.f3.hi) := ⟨_, rfl⟩
  obtain ⟨B, hB⟩ : ∃ b, b = (leftP s.o3 y s.f3.lo) := ⟨_, rfl⟩
  have bx : 0 ≤ P * b ∧ P * b ≤ 8 * 99 := ⟨Int.mul_nonneg (by omega) (by omega), Int.mul_le_mul (by omega) (by omega) (by omega) (by omega)⟩
  have bX : 0 ≤ P * B ∧ P * B ≤ 8 * 99 := ⟨Int.mul_nonneg (by omega) (by omega), Int.mul_le_mul (by omega) (by omega) (by omega) (by omega)⟩
  rw [← hL] at bL
  rw [← hH] at bH
  have has := fun {h : Heap} (hk : HOK h) (hp : 0 < h.next) (hv : LS h v s.tins Tin.cells 6) (hw : LS h w l ints 1) => has_2 hk hp hv hw G M
  rw [← hL, ← hH] at has
  have board := fun {h : Heap} (hk : HOK h) => board_2 (v := v) (y := y) hk G hy
  rw [← hb, ← hB] at board
  rw [← hL, ← hH, ← hP, ← hb, ← hB]
  obtain ⟨q, c, rfl, _⟩ := hv.open
  obtain ⟨q', c', rfl, _⟩ := hw.open
  refine CW_in Tryz.f235 (by kernel_rfl) (by kernel_rfl) rfl rfl ?_
  simp only [Tryz.f235]
  obtain ⟨R, hR⟩ : ∃ R, R = potC s (.slice q s.tins.length c) (.slice q' l.length c') := ⟨_, rfl⟩
  obtain ⟨K, hK⟩ : ∃ K, K = s.cells (.slice q s.tins.length c) := ⟨_, rfl⟩
  have t1 : take? R 0 14 = some R := by rw [hR]; rfl
  have t2 : take? R 0 13 = some K := by rw [hR, hK]; rfl
  have c2 : R[13]? = some (.slice q' l.length c') := by rw [hR]; rfl
  have sf : R.all selfC = true := by rw [hR]; rfl
  have sk : K.all selfC = true := by rw [hK]; rfl
  rw [← hR] at has
  rw [← hK] at board
  rw [← hR]
  clear hR hK
  have f1 : Fr h (h.alloc (.row R 0 true)) := (Fr.refl hk).alloc _
  have r1 : rowAt (h.alloc (.row R 0 true)) h.next = some R := rowAt_new _ _ _ _
  have m1 : (h.alloc (.row R 0 true)).next = h.next + 1 := by simp
  simp (maxDischargeDepth := 30) only [AMS, AMH, ↓reduceIte, Nat.reduceLT, Nat.reduceEqDiff, Nat.reduceAdd, Nat.reduceMul, reduceCtorEq, decide_true, decide_false, Nat.reduceLeDiff, Int.reduceNe, Int.reduceEq, ne_eq, not_false_eq_true, and_self, F235_T78, hk]
  generalize (h.alloc (.row R 0 true)) = h1 at f1 r1 m1 ⊢
  have k1 := f1.ok
  refine W_draw [(true, 0), (true, 1), (true, 3), (true, 4), (true, 5), (true, 6), (true, 8), (true, 9), (true, 11), (true, 12), (true, 2), (false, 4), (false, 9), (false, 11), (false, 12), (true, 7), (false, 9), (false, 11), (false, 12), (true, 10), (false, 11), (false, 12), (true, 13), (true, 14), (true, 15)] (by kernel_rfl) ?_
  have fz := ((Fr.refl k1).alloc (.row [.int .i64 0, .int .i64 0] 0 true)).alloc (.row [.int .i64 0, .int .i64 0] 0 true)
  have z1 : ((h1.alloc (.row [.int .i64 0, .int .i64 0] 0 true)).alloc (.row [.int .i64 0, .int .i64 0] 0 true)).get h1.next = some (.row [.int .i64 0, .int .i64 0] 0 true) := by rw [get_old _ (by simp)]; exact get_at _ rfl
  have z2 : ((h1.alloc (.row [.int .i64 0, .int .i64 0] 0 true)).alloc (.row [.int .i64 0, .int .i64 0] 0 true)).get (h1.next + 1) = some (.row [.int .i64 0, .int .i64 0] 0 true) := get_at _ (by simp)
  have m2 : ((h1.alloc (.row [.int .i64 0, .int .i64 0] 0 true)).alloc (.row [.int .i64 0, .int .i64 0] 0 true)).next = h1.next + 2 := by simp
  simp (maxDischargeDepth := 30) only [AMS, AMH, ↓reduceIte, Nat.reduceLT, Nat.reduceEqDiff, Nat.reduceAdd, Nat.reduceMul, reduceCtorEq, decide_true, decide_false, Nat.reduceLeDiff, Int.reduceNe, Int.reduceEq, ne_eq, not_false_eq_true, and_self, AMR, F235_T78, k1, r1, t1, t2, c2, sf, sk]
  generalize ((h1.alloc (.row [.int .i64 0, .int .i64 0] 0 true)).alloc (.row [.int .i64 0, .int .i64 0] 0 true)) = h2 at fz z1 z2 m2 ⊢
  have k2 := fz.ok
  have r2 := fz.row' k1 r1
  have f2 := f1.trans fz
  refine W_callP (has k2 (by omega) (hv.fr hk f2) (hw.fr hk f2)) ?_
  rintro _ h3 ⟨rfl, fr3⟩
  have f3 := f2.trans fr3
  have k3 := fr3.ok
  have r3 := fr3.row' k2 r2
  have y1 := fr3.get' k2 z1
  have y2 := fr3.get' k2 z2
  simp (maxDischargeDepth := 30) only [AMS, AMH, ↓reduceIte, Nat.reduceLT, Nat.reduceEqDiff, Nat.reduceAdd, Nat.reduceMul, reduceCtorEq, decide_true, decide_false, Nat.reduceLeDiff, Int.reduceNe, Int.reduceEq, ne_eq, not_false_eq_true, and_self, AMR, F235_T78, k3, r3, t1, t2, c2, sf, sk, y1, y2]
  refine W_callP (board k3) ?_
  rintro _ h4 ⟨rfl, fr4⟩
  have f4 := f3.trans fr4
  have k4 := fr4.ok
  have r4 := fr4.row' k3 r3
  have x1 := fr4.get' k3 y1
  have x2 := fr4.get' k3 y2
  simp (maxDischargeDepth := 30) only [AMS, AMH, ↓reduceIte, Nat.reduceLT, Nat.reduceEqDiff, Nat.reduceAdd, Nat.reduceMul, reduceCtorEq, decide_true, decide_false, Nat.reduceLeDiff, Int.reduceNe, Int.reduceEq, ne_eq, not_false_eq_true, and_self, AMR, F235_T78, k4, r4, t1, t2, c2, sf, sk, x1, x2]
  refine W_callP (sum_t _ (hw.fr hk f4) (by omega) M.bound) ?_
  rintro _ h4 ⟨rfl, rfl⟩
  rw [← hP]
  have u1 : (h4.set h1.next (.row [.int .i64 L, .int .i64 H] 0 true)).get (h1.next + 1) = some (.row [.int .i64 0, .int .i64 0] 0 true) := by rw [Heap.get_set_ne _ _ (by omega)]; exact x2
  have v1 : rowAt ((h4.set h1.next (.row [.int .i64 L, .int .i64 H] 0 true)).set (h1.next + 1) (.row [.int .i64 b, .int .i64 B] 0 true)) h1.next = some [.int .i64 L, .int .i64 H] := by rw [rowAt_set_lt _ (by omega)]; exact rowAt_set_self _ _ _ _ _
  have v2 : rowAt ((h4.set h1.next (.row [.int .i64 L, .int .i64 H] 0 true)).set (h1.next + 1) (.row [.int .i64 b, .int .i64 B] 0 true)) (h1.next + 1) = some [.int .i64 b, .int .i64 B] := rowAt_set_self _ _ _ _ _
  have w1 : IntKind.i64.wrap (P * b) = P * b := wrap64 (by omega) (by omega)
  have w2 : IntKind.i64.wrap (P * B) = P * B := wrap64 (by omega) (by omega)
  have w3 : IntKind.i64.wrap (H - P * b) = H - P * b := wrap64 (by omega) (by omega)
  have w4 : IntKind.i64.wrap (P * B - L) = P * B - L := wrap64 (by omega) (by omega)
  have mx : foldV max2 [.int .i64 (P * B - L)] (.int .i64 (H - P * b)) = some (.int .i64 (farV L H P b B)) := rfl
  have fe : Fr h ((h4.set h1.next (.row [.int .i64 L, .int .i64 H] 0 true)).set (h1.next + 1) (.row [.int .i64 b, .int .i64 B] 0 true)) := (f4.set (by omega) (get_lt k4 x1) _).set (by omega) (by rw [Heap.next_set]; exact get_lt k4 x2) _
  simp (maxDischargeDepth := 30) only [AMS, AMH, ↓reduceIte, Nat.reduceLT, Nat.reduceEqDiff, Nat.reduceAdd, Nat.reduceMul, reduceCtorEq, decide_true, decide_false, Nat.reduceLeDiff, Int.reduceNe, Int.reduceEq, ne_eq, not_false_eq_true, and_self, AMR, F235_T78, k4, r4, t1, t2, c2, sf, sk, x1, x2, u1, List.set_cons_zero]
  generalize ((h4.set h1.next (.row [.int .i64 L, .int .i64 H] 0 true)).set (h1.next + 1) (.row [.int .i64 b, .int .i64 B] 0 true)) = h6 at v1 v2 fe ⊢
  simp (maxDischargeDepth := 30) only [AMS, AMH, ↓reduceIte, Nat.reduceLT, Nat.reduceEqDiff, Nat.reduceAdd, Nat.reduceMul, reduceCtorEq, decide_true, decide_false, Nat.reduceLeDiff, Int.reduceNe, Int.reduceEq, ne_eq, not_false_eq_true, and_self, F235_T78, fe.ok, v1, v2, w1, w2, w3, w4, mx]
  exact ⟨by first | rfl | trivial, fe⟩
end Go.Am

/- The abstract machine over this program: how far off a mixture can be. -/
namespace Go.Am
open Go Go.Proofs
theorem F150_T79 : type_of% (And.intro @fp_151_0 <| And.intro @fp_151_1 <| And.intro @fp_25_0 <| And.intro @fp_25_1 <| And.intro @fp_43_2 <| And.intro @ld_151 <| And.intro @ld_22 @ld_3) := And.intro @fp_151_0 <| And.intro @fp_151_1 <| And.intro @fp_25_0 <| And.intro @fp_25_1 <| And.intro @fp_43_2 <| And.intro @ld_151 <| And.intro @ld_22 @ld_3

/-- how far off a mixture can be of a pigment, after some years -/
def farP (s : TintS) (l : List Int) (y : Int) : Nat → Int
  | 0 => farV (sumI (prods (fun t => t.a.lo) l s.tins)) (sumI (prods (fun t => t.a.hi) l s.tins)) (sumI l) (leftP s.o1 y s.f1.hi) (leftP s.o1 y s.f1.lo)
  | 1 => farV (sumI (prods (fun t => t.b.lo) l s.tins)) (sumI (prods (fun t => t.b.hi) l s.tins)) (sumI l) (leftP s.o2 y s.f2.hi) (leftP s.o2 y s.f2.lo)
  | _ => farV (sumI (prods (fun t => t.c.lo) l s.tins)) (sumI (prods (fun t => t.c.hi) l s.tins)) (sumI l) (leftP s.o3 y s.f3.hi) (leftP s.o3 y s.f3.lo)
def maxV (a b : Int) : Int := if a < b then b else a
def offS (s : TintS) (l : List Int) (y : Int) (p : Nat) (acc : Int) : Int := maxV acc ((farP s l y p + sumI l - 1).tdiv (sumI l))
def offY (s : TintS) (l : List Int) (y acc : Int) : Nat → Int
  | 0 => acc
  | k + 1 => offS s l y k (offY s l y acc k)
def offN (s : TintS) (l : List Int) : Nat → Int → Int → Int
  | 0, _, acc => acc
  | k + 1, y, acc => offN s l k (y + 1) (offY s l y acc 3)
def offP (s : TintS) (l : List Int) : Int := offN s l (s.years.hi - s.years.lo + 1).toNat s.years.lo 0
theorem far_b0 {s : TintS} {l : List Int} {y : Int} (G : s.Good) (M : MixGood s l) (hy : 0 ≤ y ∧ y ≤ 20) : -10000 ≤ farP s l y 0 ∧ farP s l y 0 ≤ 10000 := by
  have hl4 : l.length ≤ 4 := by rw [M.len]; have := of_decide_eq_true G.tins; omega
  obtain ⟨ho, hf, ha⟩ := G.parts 0 (by omega)
  have ho : inP s.o1 0 99 = true := ho
  have hf : spanP s.f1.lo s.f1.hi 9 = true := hf
  have bo := of_decide_eq_true ho
  have bf := span_b hf
  have b1 := left_b s.o1 y s.f1.hi bo hy ⟨bf.2.2, bf.2.1.2⟩
  have b2 := left_b s.o1 y s.f1.lo bo hy bf.1
  have bt : ∀ t ∈ s.tins, (0 ≤ t.a.lo ∧ t.a.lo ≤ 99) ∧ (0 ≤ t.a.hi ∧ t.a.hi ≤ 99) := fun t ht => by
    have := span_b (show spanP t.a.lo t.a.hi 99 = true from List.all_eq_true.1 ha t ht)
    omega
  have bL := prods_b (g := fun t => t.a.lo) hl4 M.all fun t ht => (bt t ht).1
  have bH := prods_b (g := fun t => t.a.hi) hl4 M.all fun t ht => (bt t ht).2
  have bP := of_decide_eq_true M.sum
  have bx : 0 ≤ sumI l * leftP s.o1 y s.f1.hi ∧ sumI l * leftP s.o1 y s.f1.hi ≤ 8 * 99 := ⟨Int.mul_nonneg (by omega) (by omega), Int.mul_le_mul (by omega) (by omega) (by omega) (by omega)⟩
  have bX : 0 ≤ sumI l * leftP s.o1 y s.f1.lo ∧ sumI l * leftP s.o1 y s.f1.lo ≤ 8 * 99 := ⟨Int.mul_nonneg (by omega) (by omega), Int.mul_le_mul (by omega) (by omega) (by omega) (by omega)⟩
  show -10000 ≤ farV _ _ _ _ _ ∧ farV _ _ _ _ _ ≤ 10000
  unfold farV
  split <;> omega
theorem far_b1 {s : TintS} {l : List Int} {y : Int} (G : s.Good) (M : MixGood s l) (hy : 0 ≤ y ∧ y ≤ 20) : -10000 ≤ farP s l y 1 ∧ farP s l y 1 ≤ 10000 := by
  have hl4 : l.length ≤ 4 := by rw [M.len]; have := of_decide_eq_true G.tins; omega
  obtain ⟨ho, hf, ha⟩ := G.parts 1 (by omega)
  have ho : inP s.o2 0 99 = true := ho
  have hf : spanP s.f2.lo s.f2.hi 9 = true := hf
  have bo := of_decide_eq_true ho
  have bf := span_b hf
  have b1 := left_b s.o2 y s.f2.hi bo hy ⟨bf.2.2, bf.2.1.2⟩
  have b2 := left_b s.o2 y s.f2.lo bo hy bf.1
  have bt : ∀ t ∈ s.tins, (0 ≤ t.b.lo ∧ t.b.lo ≤ 99) ∧ (0 ≤ t.b.hi ∧ t.b.hi ≤ 99) := fun t ht => by
    have := span_b (show spanP t.b.lo t.b.hi 99 = true from List.all_eq_true.1 ha t ht)
    omega
  have bL := prods_b (g := fun t => t.b.lo) hl4 M.all fun t ht => (bt t ht).1
  have bH := prods_b (g := fun t => t.b.hi) hl4 M.all fun t ht => (bt t ht).2
  have bP := of_decide_eq_true M.sum
  have bx : 0 ≤ sumI l * leftP s.o2 y s.f2.hi ∧ sumI l * leftP s.o2 y s.f2.hi ≤ 8 * 99 := ⟨Int.mul_nonneg (by omega) (by omega), Int.mul_le_mul (by omega) (by omega) (by omega) (by omega)⟩
  have bX : 0 ≤ sumI l * leftP s.o2 y s.f2.lo ∧ sumI l * leftP s.o2 y s.f2.lo ≤ 8 * 99 := ⟨Int.mul_nonneg (by omega) (by omega), Int.mul_le_mul (by omega) (by omega) (by omega) (by omega)⟩
  show -10000 ≤ farV _ _ _ _ _ ∧ farV _ _ _ _ _ ≤ 10000
  unfold farV
  split <;> omega
theorem far_b2 {s : TintS} {l : List Int} {y : Int} (G : s.Good) (M : MixGood s l) (hy : 0 ≤ y ∧ y ≤ 20) : -10000 ≤ farP s l y 2 ∧ farP s l y 2 ≤ 10000 := by
  have hl4 : l.length ≤ 4 := by rw [M.len]; have := of_decide_eq_true G.tins; omega
  obtain ⟨ho, hf, ha⟩ := G.parts 2 (by omega)
  have ho : inP s.o3 0 99 = true := ho
  have hf : spanP s.f3.lo s.f3.hi 9 = true := hf
  have bo := of_decide_eq_true ho
  have bf := span_b hf
  have b1 := left_b s.o3 y s.f3.hi bo hy ⟨bf.2.2, bf.2.1.2⟩
  have b2 := left_b s.o3 y s.f3.lo bo hy bf.1
  have bt : ∀ t ∈ s.tins, (0 ≤ t.c.lo ∧ t.c.lo ≤ 99) ∧ (0 ≤ t.c.hi ∧ t.c.hi ≤ 99) := fun t ht => by
    have := span_b (show spanP t.c.lo t.c.hi 99 = true from List.all_eq_true.1 ha t ht)
    omega
  have bL := prods_b (g := fun t => t.c.lo) hl4 M.all fun t ht => (bt t ht).1
  have bH := prods_b (g := fun t => t.c.hi) hl4 M.all fun t ht => (bt t ht).2
  have bP := of_decide_eq_true M.sum
  have bx : 0 ≤ sumI l * leftP s.o3 y s.f3.hi ∧ sumI l * leftP s.o3 y s.f3.hi ≤ 8 * 99 := ⟨Int.mul_nonneg (by omega) (by omega), Int.mul_le_mul (by omega) (by omega) (by omega) (by omega)⟩
  have bX : 0 ≤ sumI l * leftP s.o3 y s.f3.lo ∧ sumI l * leftP s.o3 y s.f3.lo ≤ 8 * 99 := ⟨Int.mul_nonneg (by omega) (by omega), Int.mul_le_mul (by omega) (by omega) (by omega) (by omega)⟩
  show -10000 ≤ farV _ _ _ _ _ ∧ farV _ _ _ _ _ ≤ 10000
  unfold farV
  split <;> omega
set_option maxRecDepth 10000 in
set_option maxHeartbeats 2000000 in
theorem off_t {v w : Value} {s : TintS} {l : List Int} {h : Heap} (hk : HOK h) (hp : 0 < h.next) (hv : LS h v s.tins Tin.cells 6) (hw : LS h w l ints 1) (G : s.Good) (M : MixGood s l) :
    CW CC 150 [.agg ⟨potC s v w⟩] h fun r h' => r = .int .i64 (offP s l) ∧ Fr h h' := by
  have hl4 : l.length ≤ 4 := by rw [M.len]; have := of_decide_eq_true G.tins; omega
  have hyy := span_b (show spanP s.years.lo s.years.hi 20 = true from G.years)
  have bP := of_decide_eq_true M.sum
  have far0 := fun {h : Heap} {y : Int} (hk : HOK h) (hp : 0 < h.next) (hv : LS h v s.tins Tin.cells 6) (hw : LS h w l ints 1) (hy : 0 ≤ y ∧ y ≤ 20) => far_0 hk hp hv hw G M hy
  have far1 := fun {h : Heap} {y : Int} (hk : HOK h) (hp : 0 < h.next) (hv : LS h v s.tins Tin.cells 6) (hw : LS h w l ints 1) (hy : 0 ≤ y ∧ y ≤ 20) => far_1 hk hp hv hw G M hy
  have far2 := fun {h : Heap} {y : Int} (hk : HOK h) (hp : 0 < h.next) (hv : LS h v s.tins Tin.cells 6) (hw : LS h w l ints 1) (hy : 0 ≤ y ∧ y ≤ 20) => far_2 hk hp hv hw G M hy
  obtain ⟨q, c, rfl, _⟩ := hv.open
  obtain ⟨q', c', rfl, _⟩ := hw.open
  refine CW_in Tryz.f150 (by kernel_rfl) (by kernel_rfl) rfl rfl ?_
  simp only [Tryz.f150]
  obtain ⟨R, hR⟩ : ∃ R, R = potC s (.slice q s.tins.length c) (.slice q' l.length c') := ⟨_, rfl⟩
  have t1 : take? R 0 14 = some R := by rw [hR]; rfl
  have c9 : R[9]? = some (.int .i64 s.years.lo) := by rw [hR]; rfl
  have c10 : R[10]? = some (.int .i64 s.years.hi) := by rw [hR]; rfl
  have c13 : R[13]? = some (.slice q' l.length c') := by rw [hR]; rfl
  rw [← hR] at far0 far1 far2
  rw [← hR]
  clear hR
  have f1 : Fr h (h.alloc (.row R 0 true)) := (Fr.refl hk).alloc _
  have r1 : rowAt (h.alloc (.row R 0 true)) h.next = some R := rowAt_new _ _ _ _
  have m1 : (h.alloc (.row R 0 true)).next = h.next + 1 := by simp
  simp (maxDischargeDepth := 30) only [AMS, AMH, ↓reduceIte, Nat.reduceLT, Nat.reduceEqDiff, Nat.reduceAdd, Nat.reduceMul, reduceCtorEq, decide_true, decide_false, Nat.reduceLeDiff, Int.reduceNe, Int.reduceEq, ne_eq, not_false_eq_true, and_self, F150_T79, hk]
  generalize (h.alloc (.row R 0 true)) = h1 at f1 r1 m1 ⊢
  have k1 := f1.ok
  simp (maxDischargeDepth := 30) only [AMS, AMH, ↓reduceIte, Nat.reduceLT, Nat.reduceEqDiff, Nat.reduceAdd, Nat.reduceMul, reduceCtorEq, decide_true, decide_false, Nat.reduceLeDiff, Int.reduceNe, Int.reduceEq, ne_eq, not_false_eq_true, and_self, F150_T79, k1, r1, c13]
  refine W_call (sum_t _ (hw.fr hk f1) (by omega) M.bound) ?_
  rintro _ h1 ⟨rfl, rfl⟩
  simp (maxDischargeDepth := 30) only [AMS, AMH, ↓reduceIte, Nat.reduceLT, Nat.reduceEqDiff, Nat.reduceAdd, Nat.reduceMul, reduceCtorEq, decide_true, decide_false, Nat.reduceLeDiff, Int.reduceNe, Int.reduceEq, ne_eq, not_false_eq_true, and_self, F150_T79, k1, r1, c9]
  refine W_loop (s.years.hi - s.years.lo + 1).toNat (fun m f h' => ∃ y acc : Int, s.years.lo ≤ y ∧ y ≤ s.years.hi + 1 ∧ m = (s.years.hi - y + 1).toNat ∧ f 1 = .pointer (some ⟨h.next, 0, none⟩) ∧ f 4 = .int .i64 (sumI l) ∧ f 5 = .int .i64 y ∧ f 3 = .int .i64 acc ∧ offN s l (s.years.hi - y + 1).toNat y acc = offP s l ∧ Fr h1 h')
    ⟨s.years.lo, 0, by omega, by omega, rfl, by simp [upd_at, argsFn_at], by simp [upd_at], by simp [upd_at], by simp [upd_at], rfl, Fr.refl k1⟩ ?_
  rintro m f h2 ⟨y, acc, hy1, hy2, rfl, g1, g4, g5, g3, hacc, fr2⟩ ih
  have f2 := f1.trans fr2
  have k2 := fr2.ok
  have r2 := fr2.row' k1 r1
  by_cases hyh : y ≤ s.years.hi
  rotate_left
  · have d : decide (y ≤ s.years.hi) = false := decide_eq_false hyh
    simp (maxDischargeDepth := 30) only [AMS, AMH, ↓reduceIte, Nat.reduceLT, Nat.reduceEqDiff, Nat.reduceAdd, Nat.reduceMul, reduceCtorEq, decide_true, decide_false, Nat.reduceLeDiff, Int.reduceNe, Int.reduceEq, ne_eq, not_false_eq_true, and_self, F150_T79, k2, r2, c10, g1, g4, g5, g3, d]
    rw [show (s.years.hi - y + 1).toNat = 0 by omega] at hacc
    exact ⟨by rw [← hacc]; rfl, f2⟩
  have d : decide (y ≤ s.years.hi) = true := decide_eq_true hyh
  have up : IntKind.i64.wrap (y + 1) = y + 1 := wrap64 (by omega) (by omega)
  simp (maxDischargeDepth := 30) only [AMS, AMH, ↓reduceIte, Nat.reduceLT, Nat.reduceEqDiff, Nat.reduceAdd, Nat.reduceMul, reduceCtorEq, decide_true, decide_false, Nat.reduceLeDiff, Int.reduceNe, Int.reduceEq, ne_eq, not_false_eq_true, and_self, F150_T79, k2, r2, c10, g1, g4, g5, g3, d]
  refine W_loop 3 (fun m f' h' => ∃ p : Nat, p ≤ 3 ∧ m = 3 - p ∧ f' 1 = .pointer (some ⟨h.next, 0, none⟩) ∧ f' 4 = .int .i64 (sumI l) ∧ f' 5 = .int .i64 y ∧ f' 22 = .int .i64 (p : Int) ∧ f' 3 = .int .i64 (offY s l y acc p) ∧ Fr h2 h')
    ⟨0, by omega, by omega, by simp [upd_at, g1], by simp [upd_at, g4], by simp [upd_at, g5], by simp [upd_at], by simp [upd_at, g3, offY], Fr.refl k2⟩ ?_
  rintro m f' h3 ⟨p, hp3, rfl, e1, e4, e5, e22, e3, fr3⟩ ih2
  have f3 := f2.trans fr3
  have k3 := fr3.ok
  have r3 := fr3.row' k2 r2
  have hp' : p = 0 ∨ p = 1 ∨ p = 2 ∨ p = 3 := by omega
  rcases hp' with rfl | rfl | rfl | rfl
  · have e22 : f' 22 = .int .i64 0 := e22
    have d3 : decide ((0 : Int) < 3) = true := rfl
    have up3 : IntKind.i64.wrap ((0 : Int) + 1) = ((1 : Nat) : Int) := rfl
    have bf := far_b0 (y := y) G M ⟨by omega, by omega⟩
    simp (maxDischargeDepth := 30) only [AMS, AMH, ↓reduceIte, Nat.reduceLT, Nat.reduceEqDiff, Nat.reduceAdd, Nat.reduceMul, reduceCtorEq, decide_true, decide_false, Nat.reduceLeDiff, Int.reduceNe, Int.reduceEq, ne_eq, not_false_eq_true, and_self, F150_T79, k3, r3, t1, e1, e4, e5, e22, e3, d3]
    refine W_call (far0 k3 (by have := f3.next; omega) (hv.fr hk f3) (hw.fr hk f3) ⟨by omega, by omega⟩) ?_
    rintro _ h4 ⟨rfl, fr4⟩
    have k4 := fr4.ok
    have w1 : IntKind.i64.wrap (farP s l y 0 + sumI l) = farP s l y 0 + sumI l := wrap64 (by omega) (by omega)
    have w2 : IntKind.i64.wrap (farP s l y 0 + sumI l - 1) = farP s l y 0 + sumI l - 1 := wrap64 (by omega) (by omega)
    have nz : sumI l ≠ 0 := by omega
    have bq := Int.natAbs_tdiv_le_natAbs (farP s l y 0 + sumI l - 1) (sumI l)
    have w3 : IntKind.i64.wrap ((farP s l y 0 + sumI l - 1).tdiv (sumI l)) = (farP s l y 0 + sumI l - 1).tdiv (sumI l) := wrap64 (by omega) (by omega)
    have mx : foldV max2 [.int .i64 ((farP s l y 0 + sumI l - 1).tdiv (sumI l))] (.int .i64 (offY s l y acc 0)) = some (.int .i64 (offY s l y acc 1)) := rfl
    show W _ _
    rw [show farV _ _ _ _ _ = farP s l y 0 from rfl]
    simp (maxDischargeDepth := 30) only [AMS, AMH, ↓reduceIte, Nat.reduceLT, Nat.reduceEqDiff, Nat.reduceAdd, Nat.reduceMul, reduceCtorEq, decide_true, decide_false, Nat.reduceLeDiff, Int.reduceNe, Int.reduceEq, ne_eq, not_false_eq_true, and_self, F150_T79, k4, e1, e4, e5, e22, e3, I_quo, nz, w1, w2, w3, mx, up3]
    refine ih2 2 _ _ (by omega) ?_
    exact ⟨1, by omega, by omega, by simp [upd_at, e1], by simp [upd_at, e4], by simp [upd_at, e5], by simp [upd_at], by simp [upd_at], fr3.trans fr4⟩
  · have e22 : f' 22 = .int .i64 1 := e22
    have d3 : decide ((1 : Int) < 3) = true := rfl
    have up3 : IntKind.i64.wrap ((1 : Int) + 1) = ((2 : Nat) : Int) := rfl
    have bf := far_b1 (y := y) G M ⟨by omega, by omega⟩
    simp (maxDischargeDepth := 30) only [AMS, AMH, ↓reduceIte, Nat.reduceLT, Nat.reduceEqDiff, Nat.reduceAdd, Nat.reduceMul, reduceCtorEq, decide_true, decide_false, Nat.reduceLeDiff, Int.reduceNe, Int.reduceEq, ne_eq, not_false_eq_true, and_self, F150_T79, k3, r3, t1, e1, e4, e5, e22, e3, d3]
    refine W_call (far1 k3 (by have := f3.next; omega) (hv.fr hk f3) (hw.fr hk f3) ⟨by omega, by omega⟩) ?_
    rintro _ h4 ⟨rfl, fr4⟩
    have k4 := fr4.ok
    have w1 : IntKind.i64.wrap (farP s l y 1 + sumI l) = farP s l y 1 + sumI l := wrap64 (by omega) (by omega)
    have w2 : IntKind.i64.wrap (farP s l y 1 + sumI l - 1) = farP s l y 1 + sumI l - 1 := wrap64 (by omega) (by omega)
    have nz : sumI l ≠ 0 := by omega
    have bq := Int.natAbs_tdiv_le_natAbs (farP s l y 1 + sumI l - 1) (sumI l)
    have w3 : IntKind.i64.wrap ((farP s l y 1 + sumI l - 1).tdiv (sumI l)) = (farP s l y 1 + sumI l - 1).tdiv (sumI l) := wrap64 (by omega) (by omega)
    have mx : foldV max2 [.int .i64 ((farP s l y 1 + sumI l - 1).tdiv (sumI l))] (.int .i64 (offY s l y acc 1)) = some (.int .i64 (offY s l y acc 2)) := rfl
    show W _ _
    rw [show farV _ _ _ _ _ = farP s l y 1 from rfl]
    simp (maxDischargeDepth := 30) only [AMS, AMH, ↓reduceIte, Nat.reduceLT, Nat.reduceEqDiff, Nat.reduceAdd, Nat.reduceMul, reduceCtorEq, decide_true, decide_false, Nat.reduceLeDiff, Int.reduceNe, Int.reduceEq, ne_eq, not_false_eq_true, and_self, F150_T79, k4, e1, e4, e5, e22, e3, I_quo, nz, w1, w2, w3, mx, up3]
    refine ih2 1 _ _ (by omega) ?_
    exact ⟨2, by omega, by omega, by simp [upd_at, e1], by simp [upd_at, e4], by simp [upd_at, e5], by simp [upd_at], by simp [upd_at], fr3.trans fr4⟩
  · have e22 : f' 22 = .int .i64 2 := e22
    have d3 : decide ((2 : Int) < 3) = true := rfl
    have up3 : IntKind.i64.wrap ((2 : Int) + 1) = ((3 : Nat) : Int) := rfl
    have bf := far_b2 (y := y) G M ⟨by omega, by omega⟩
    simp (maxDischargeDepth := 30) only [AMS, AMH, ↓reduceIte, Nat.reduceLT, Nat.reduceEqDiff, Nat.reduceAdd, Nat.reduceMul, reduceCtorEq, decide_true, decide_false, Nat.reduceLeDiff, Int.reduceNe, Int.reduceEq, ne_eq, not_false_eq_true, and_self, F150_T79, k3, r3, t1, e1, e4, e5, e22, e3, d3]
    refine W_call (far2 k3 (by have := f3.next; omega) (hv.fr hk f3) (hw.fr hk f3) ⟨by omega, by omega⟩) ?_
    rintro _ h4 ⟨rfl, fr4⟩
    have k4 := fr4.ok
    have w1 : IntKind.i64.wrap (farP s l y 2 + sumI l) = farP s l y 2 + sumI l := wrap64 (by omega) (by omega)
    have w2 : IntKind.i64.wrap (farP s l y 2 + sumI l - 1) = farP s l y 2 + sumI l - 1 := wrap64 (by omega) (by omega)
    have nz : sumI l ≠ 0 := by omega
    have bq := Int.natAbs_tdiv_le_natAbs (farP s l y 2 + sumI l - 1) (sumI l)
    have w3 : IntKind.i64.wrap ((farP s l y 2 + sumI l - 1).tdiv (sumI l)) = (farP s l y 2 + sumI l - 1).tdiv (sumI l) := wrap64 (by omega) (by omega)
    have mx : foldV max2 [.int .i64 ((farP s l y 2 + sumI l - 1).tdiv (sumI l))] (.int .i64 (offY s l y acc 2)) = some (.int .i64 (offY s l y acc 3)) := rfl
    show W _ _
    rw [show farV _ _ _ _ _ = farP s l y 2 from rfl]
    simp (maxDischargeDepth := 30) only [AMS, AMH, ↓reduceIte, Nat.reduceLT, Nat.reduceEqDiff, Nat.reduceAdd, Nat.reduceMul, reduceCtorEq, decide_true, decide_false, Nat.reduceLeDiff, Int.reduceNe, Int.reduceEq, ne_eq, not_false_eq_true, and_self, F150_T79, k4, e1, e4, e5, e22, e3, I_quo, nz, w1, w2, w3, mx, up3]
    refine ih2 0 _ _ (by omega) ?_
    exact ⟨3, by omega, by omega, by simp [upd_at, e1], by simp [upd_at, e4], by simp [upd_at, e5], by simp [upd_at], by simp [upd_at], fr3.trans fr4⟩
  · have e22 : f' 22 = .int .i64 3 := e22
    have d3 : decide ((3 : Int) < 3) = false := rfl
    simp (maxDischargeDepth := 30) only [AMS, AMH, ↓reduceIte, Nat.reduceLT, Nat.reduceEqDiff, Nat.reduceAdd, Nat.reduceMul, reduceCtorEq, decide_true, decide_false, Nat.reduceLeDiff, Int.reduceNe, Int.reduceEq, ne_eq, not_false_eq_true, and_self, F150_T79, k3, e1, e4, e5, e22, e3, d3, up]
    refine ih (s.years.hi - (y + 1) + 1).toNat _ _ (by omega) ?_
    refine ⟨y + 1, offY s l y acc 3, by omega, by omega, rfl, by simp [upd_at, e1], by simp [upd_at, e4], by simp [upd_at], by simp [upd_at, e3], ?_, fr2.trans fr3⟩
    rw [← hacc, show (s.years.hi - y + 1).toNat = (s.years.hi - (y + 1) + 1).toNat + 1 by omega]; rfl
end Go.Am
