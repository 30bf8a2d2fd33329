/- Parts 56, 57 of the abstract machine over this program, joined: what each part says stands at its head. -/
import Derived.Test.YtfnkjclplfhjcaaGreatDoorJ54
set_option linter.unusedSimpArgs false
set_option linter.unusedVariables false
/- The plain law: more quantity never costs less; hours between their bounds. -/
namespace Go.Am
open Go

theorem div_mono {a a' b : Int} (hb : 1 ≤ b) (h : a ≤ a') : a / b ≤ a' / b := Int.ediv_le_ediv (by omega) h
theorem rEven_mono {a a' b : Int} (ha : 0 ≤ a) (hb : 1 ≤ b) (h : a ≤ a') : rEven a b ≤ rEven a' b := by
  have hn : rNear a b ≤ rNear a' b := div_mono (by omega) (by omega)
  have h1 : 2 * b * rNear a b ≤ 2 * a + b := Int.mul_ediv_self_le (by omega)
  unfold rEven
  split
  · rename_i c
    split
    · omega
    · omega
  · rename_i c
    split
    · rename_i c'
      by_cases he : rNear a b = rNear a' b
      · exfalso
        apply c
        rw [he] at h1 ⊢
        refine ⟨?_, c'.2⟩
        have := c'.1
        omega
      · omega
    · exact hn
theorem rnd_mono {r a a' b : Int} (ha : 0 ≤ a) (hb : 1 ≤ b) (h : a ≤ a') : rnd r a b ≤ rnd r a' b := by
  unfold rnd
  split
  · exact div_mono hb h
  split
  · exact div_mono hb (by omega)
  split
  · exact div_mono (by omega) (by omega)
  · exact rEven_mono ha hb h
theorem price1_mono {t : Tar} (ht : t.ok = true) {q q' : Int} (hq : 0 ≤ q) (h : q ≤ q') : price1 t q ≤ price1 t q' := by
  have tk := Tar.ok_at ht
  exact rnd_mono (Int.mul_nonneg hq (by omega)) (by omega) (Int.mul_le_mul_of_nonneg_right h (by omega))

theorem sumI_mono {α : Type} (f g : α → Int) : ∀ (l : List α), (∀ x ∈ l, f x ≤ g x) → sumI (l.map f) ≤ sumI (l.map g)
  | [], _ => Int.le_refl _
  | x :: l, h => by
    simp only [List.map_cons, sumI_cons]
    have h1 := h x List.mem_cons_self
    have h2 := sumI_mono f g l fun y hy => h y (List.mem_cons_of_mem _ hy)
    omega

theorem qtys_zip (t : Tar) (bs : List Board) (f : Board → Int) : qtys t bs (bs.map f) = bs.map fun b => qty t.kind b (f b) := by
  unfold qtys
  rw [List.zip_map_right, List.map_map]
  induction bs with
  | nil => rfl
  | cons b bs ih => simp [List.zip_cons_cons] at ih ⊢; exact ih

/-- lists pointwise below one another -/
def Below (l m : List Int) : Prop := l.length = m.length ∧ ∀ (i : Nat) x y, l[i]? = some x → m[i]? = some y → x ≤ y
theorem Below.sum : ∀ {l m : List Int}, Below l m → sumI l ≤ sumI m
  | [], [], _ => Int.le_refl _
  | [], _ :: _, h => by have := h.1; simp at this
  | _ :: _, [], h => by have := h.1; simp at this
  | x :: l, y :: m, h => by
    rw [sumI_cons, sumI_cons]
    have h1 := h.2 0 x y rfl rfl
    have h2 : Below l m := ⟨by have := h.1; simpa using this, fun i a b ha hb => h.2 (i + 1) a b (by simpa using ha) (by simpa using hb)⟩
    have := h2.sum
    omega
theorem Below.map {l m : List Int} (h : Below l m) (f : Int → Int) (hf : ∀ x ∈ l, ∀ y, x ≤ y → f x ≤ f y) : Below (l.map f) (m.map f) := by
  refine ⟨by simp [h.1], fun i x y hx hy => ?_⟩
  rw [List.getElem?_map] at hx hy
  cases h1 : l[i]? with
  | none => rw [h1] at hx; simp at hx
  | some a =>
    cases h2 : m[i]? with
    | none => rw [h2] at hy; simp at hy
    | some b =>
      rw [h1] at hx; rw [h2] at hy
      simp at hx hy
      subst hx; subst hy
      exact hf a (List.mem_of_getElem? h1) b (h.2 i a b h1 h2)

theorem paid_mono {t : Tar} (ht : t.ok = true) {bs : List Board} {l m : List Int} (hb : Below (qtys t bs l) (qtys t bs m)) (h0 : ∀ x ∈ qtys t bs l, 0 ≤ x) : paid t bs l ≤ paid t bs m := by
  unfold paid
  split
  · exact (hb.map (price1 t) fun x hx y hxy => price1_mono ht (h0 x hx) hxy).sum
  · refine price1_mono ht ?_ hb.sum
    have : ∀ l : List Int, (∀ x ∈ l, 0 ≤ x) → 0 ≤ sumI l := by
      intro l
      induction l with
      | nil => intro _; exact Int.le_refl _
      | cons x l ih => intro h; rw [sumI_cons]; have := h x List.mem_cons_self; have := ih fun y hy => h y (List.mem_cons_of_mem _ hy); omega
    exact this _ h0

theorem qty_mono {k : Int} {b : Board} {x y : Int} (h : x ≤ y) : qty k b x ≤ qty k b y := by
  unfold qty; split
  · exact Int.le_refl _
  split
  · exact Int.le_refl _
  split
  · exact h
  · exact Int.le_refl _
theorem qtys_below {t : Tar} {bs : List Board} {l m : List Int} (hl : l.length = bs.length) (hm : m.length = bs.length) (h : ∀ (i : Nat) x y, l[i]? = some x → m[i]? = some y → x ≤ y) : Below (qtys t bs l) (qtys t bs m) := by
  refine ⟨by rw [qtys_len hl, qtys_len hm], fun i p q hp hq => ?_⟩
  have hi : i < bs.length := by have := (List.getElem?_eq_some_iff.1 hp).1; rwa [qtys_len hl] at this
  obtain ⟨b, hb⟩ : ∃ b, bs[i]? = some b := ⟨_, List.getElem?_eq_getElem hi⟩
  obtain ⟨x, hx⟩ : ∃ x, l[i]? = some x := ⟨_, List.getElem?_eq_getElem (by omega)⟩
  obtain ⟨y, hy⟩ : ∃ y, m[i]? = some y := ⟨_, List.getElem?_eq_getElem (by omega)⟩
  rw [qtys_get hb hx] at hp
  rw [qtys_get hb hy] at hq
  simp at hp hq
  subst hp; subst hq
  exact qty_mono (h i x y hx hy)

theorem ends_ok {s : Sheet} (ok : s.ok = true) (high : Bool) : hoursOK s.boards (endsL high s.boards) = true := by
  refine hoursOK_all (by simp [endsL]) fun i x b hx hb => ?_
  simp only [endsL, List.getElem?_map, hb, Option.map_some, Option.some.injEq] at hx
  subst hx
  have := of_decide_eq_true (Sheet.ok_boards ok b (List.mem_of_getElem? hb))
  simp only [okHour, inP, endOf, decide_eq_true_eq]
  cases high <;> simp <;> omega
theorem ends_get {high : Bool} {bs : List Board} {i : Nat} {b : Board} (h : bs[i]? = some b) : (endsL high bs)[i]? = some (endOf high b) := by simp [endsL, h]

/-- the theorem of bounds -/
theorem between {s : Sheet} {t : Tar} {l : List Int} (ok : s.ok = true) (ht : t.ok = true) (hl : hoursOK s.boards l = true) :
    0 ≤ paid t s.boards (endsL false s.boards) ∧ paid t s.boards (endsL false s.boards) ≤ paid t s.boards l ∧ paid t s.boards l ≤ paid t s.boards (endsL true s.boards) ∧
      (t.kind ≠ 3 → paid t s.boards (endsL false s.boards) = paid t s.boards (endsL true s.boards)) := by
  obtain ⟨h1, h2⟩ := hoursOK_at hl
  have e0 : ∀ hi, (endsL hi s.boards).length = s.boards.length := fun hi => by simp [endsL]
  have q0 := qtys_b ok (ends_ok ok false) t
  refine ⟨?_, ?_, ?_, ?_⟩
  · unfold paid
    split
    · have : ∀ x ∈ parts t s.boards (endsL false s.boards), 0 ≤ x ∧ x ≤ 1000000012 := fun x hx => by
        obtain ⟨q, hq, rfl⟩ := List.mem_map.1 hx
        have := q0 q hq
        exact price1_b ht this.1 (by omega)
      exact (sumI_bound this).1
    · have hs := sumI_bound q0
      have hlen := Sheet.ok_len ok
      have : ((qtys t s.boards (endsL false s.boards)).length : Int) ≤ 4 := by rw [qtys_len (e0 false)]; omega
      exact (price1_b ht hs.1 (by omega)).1
  · refine paid_mono ht (qtys_below (e0 false) h1 fun i x y hx hy => ?_) fun x hx => (q0 x hx).1
    have hi : i < s.boards.length := by have := (List.getElem?_eq_some_iff.1 hy).1; omega
    obtain ⟨b, hb⟩ : ∃ b, s.boards[i]? = some b := ⟨_, List.getElem?_eq_getElem hi⟩
    rw [ends_get hb] at hx
    simp [endOf] at hx
    subst hx
    exact (h2 i y b hy hb).1
  · refine paid_mono ht (qtys_below h1 (e0 true) fun i x y hx hy => ?_) fun x hx => (qtys_b ok hl t x hx).1
    have hi : i < s.boards.length := by have := (List.getElem?_eq_some_iff.1 hx).1; omega
    obtain ⟨b, hb⟩ : ∃ b, s.boards[i]? = some b := ⟨_, List.getElem?_eq_getElem hi⟩
    rw [ends_get hb] at hy
    simp [endOf] at hy
    subst hy
    exact (h2 i x b hx hb).2
  · intro hk
    have : qtys t s.boards (endsL false s.boards) = qtys t s.boards (endsL true s.boards) := by
      unfold endsL
      rw [qtys_zip, qtys_zip]
      refine List.map_congr_left fun b _ => ?_
      unfold qty
      repeat' split
      all_goals first | rfl | (rename_i h3; exact absurd h3 hk)
    unfold paid parts
    rw [this]
end Go.Am

/- The abstract machine, part 57: the statement PriceBetween, on the machine. -/
namespace Go.Am
open Go Go.Proofs

theorem known_23 (h : Heap) : callF CC (Lim CC) 23 [] h = some (.ret (.bool true) h none) := by
  have : CC.A 23 = some knownSpec := by kernel_rfl
  unfold callF; rw [this]; rfl

theorem like_30 (x y : Int) : CC.like 30 [.int .i64 x, .int .i64 y] = true := by kernel_rfl
theorem eqOk_30 : CC.eqOk 30 = true := by kernel_rfl
theorem eq_30 (c : Bool) (x y z w : Int) : aBin CC .eql 30 c (.agg ⟨[.int .i64 x, .int .i64 y]⟩) (.agg ⟨[.int .i64 z, .int .i64 w]⟩) = some (.bool (decide (x = z ∧ y = w))) := by
  rw [A_eql CC 30 c [.int .i64 x, .int .i64 y] [.int .i64 z, .int .i64 w] eqOk_30 (like_30 x y) rfl]
  simp only [cellsEq_int, cellsEq_nil]
  by_cases h1 : x = z
  · by_cases h2 : y = w
    · simp [h1, h2, boolV]
    · simp [h1, h2, boolV]
  · simp [h1, boolV]
theorem ne_self (x : Int) : (x != x) = false := by simp
theorem and_self' (x y : Int) : decide (x = x ∧ y = y) = true := by simp

set_option maxRecDepth 10000 in
set_option maxHeartbeats 2000000 in
theorem between_3 {h : Heap} (hk : HOK h) (hp : 0 < h.next) {a b c v : Value} {s : Sheet} {l : List Int} (hs : IsSheet h a b c s) (hv : LS h v l ints 1) (t : Int) :
    CW CC 3 [.agg ⟨[a, b, c]⟩, .int .i64 t, v] h fun r h' => r = .bool true ∧ Fr h h' := by
  obtain ⟨p1, c1, rfl, _⟩ := hs.offs.open
  obtain ⟨p2, c2, rfl, _⟩ := hs.boards.open
  obtain ⟨p3, c3, rfl, x3⟩ := hs.tars.open
  obtain ⟨p4, c4, rfl, _⟩ := hv.open
  refine CW_in Tryz.f3 (by kernel_rfl) (by kernel_rfl) rfl rfl ?_
  simp only [Tryz.f3]
  have f1 : Fr h (h.alloc (.row [.slice p1 s.offs.length c1, .slice p2 s.boards.length c2, .slice p3 s.tars.length c3] 0 true)) := (Fr.refl hk).alloc _
  have r1 : rowAt (h.alloc (.row [.slice p1 s.offs.length c1, .slice p2 s.boards.length c2, .slice p3 s.tars.length c3] 0 true)) h.next = some [.slice p1 s.offs.length c1, .slice p2 s.boards.length c2, .slice p3 s.tars.length c3] := rowAt_new _ _ _ _
  obtain ⟨_, h2, e2, rfl, fr2⟩ := asked_22 f1.ok (hs.fr hk f1) (hv.fr hk f1) t
  have f2 := f1.trans fr2
  have r2 := fr2.row' f1.ok r1
  cases hask : askedB s t l with
  | false =>
    rw [hask] at e2
    simp (maxDischargeDepth := 30) only [AMS, AMH, ↓reduceIte, Nat.reduceLT, Nat.reduceEqDiff, Nat.reduceAdd, Nat.reduceMul, reduceCtorEq, decide_true, decide_false, Nat.reduceLeDiff, Int.reduceNe, Int.reduceEq, ne_eq, not_false_eq_true, and_self, fp_26_2, fp_41_0, ix_24, ld_24, ld_26, ld_30, ld_38, part_41, size_24, size_30, size_41, und_24, zero_24, zero_30, hk, e2, known_23]
    exact ⟨trivial, f2⟩
  | true =>
  rw [hask] at e2
  unfold askedB at hask
  simp only [Bool.and_eq_true] at hask
  obtain ⟨⟨_, ok⟩, _, hin, hl⟩ := hask
  have hin := of_decide_eq_true hin
  obtain ⟨i, rfl⟩ : ∃ i : Nat, t = i := ⟨t.toNat, by omega⟩
  obtain ⟨T, hT⟩ : ∃ T, s.tars[i]? = some T := ⟨_, List.getElem?_eq_getElem (by omega)⟩
  have hil := (List.getElem?_eq_some_iff.1 hT).1
  have tok := Sheet.ok_tars ok T (List.mem_of_getElem? hT)
  have hlen := Sheet.ok_len ok
  obtain ⟨b0, b1, b2, b3⟩ := between ok tok hl
  generalize hX : paid T s.boards (endsL false s.boards) = X at b0 b1 b3
  generalize hY : paid T s.boards (endsL true s.boards) = Y at b2 b3
  generalize hZ : paid T s.boards l = Z at b1 b2
  obtain ⟨b3', o3, sp3, row3, rfl, rr3, e3⟩ := LS.at (n := 0) (c := 0) x3 hT
  have k3 : row3[o3 + i * 5]? = some (.int .i64 T.kind) := by
    rcases x3 with hx | ⟨bb, oo, spp, roww, he, hr, hx⟩
    · rw [hx] at hil; simp at hil
    · simp at he
      obtain ⟨rfl, rfl, rfl⟩ := he
      rw [rr3] at hr; simp at hr; subst hr
      simpa [Tar.cells] using (hx _ _ hT).2 0 (by omega)
  simp (maxDischargeDepth := 30) only [AMS, AMH, ↓reduceIte, Nat.reduceLT, Nat.reduceEqDiff, Nat.reduceAdd, Nat.reduceMul, reduceCtorEq, decide_true, decide_false, Nat.reduceLeDiff, Int.reduceNe, Int.reduceEq, ne_eq, not_false_eq_true, and_self, fp_26_2, fp_41_0, ix_24, ld_24, ld_26, ld_30, ld_38, part_41, size_24, size_30, size_41, und_24, zero_24, zero_30, hk, e2, f2.ok, r2]
  have n2 : 0 < h2.next := by have := f2.next; omega
  refine W_call (paid_24 f2.ok n2 (hs.fr hk f2) ok hT (ends_ok ok false) (ends_ok ok true)) ?_
  rintro _ h3 ⟨rfl, fr3⟩
  have f3 := f2.trans fr3
  have r3 := fr3.row' f2.ok r2
  have m3 : h.next < h3.next := row_lt f3.ok r3
  rw [hX, hY]
  simp (maxDischargeDepth := 30) only [AMS, AMH, ↓reduceIte, Nat.reduceLT, Nat.reduceEqDiff, Nat.reduceAdd, Nat.reduceMul, reduceCtorEq, decide_true, decide_false, Nat.reduceLeDiff, Int.reduceNe, Int.reduceEq, ne_eq, not_false_eq_true, and_self, fp_26_2, fp_41_0, ix_24, ld_24, ld_26, ld_30, ld_38, part_41, size_24, size_30, size_41, und_24, zero_24, zero_30, f3.ok, r3]
  have f4 : Fr h ((h3.alloc (.row [.int .i64 0, .int .i64 0] 0 true)).set h3.next (.row [.int .i64 X, .int .i64 Y] 0 true)) := (f3.alloc _).set (by omega) (by simp) _
  have r4 : rowAt ((h3.alloc (.row [.int .i64 0, .int .i64 0] 0 true)).set h3.next (.row [.int .i64 X, .int .i64 Y] 0 true)) h.next = some [.slice p1 s.offs.length c1, .slice p2 s.boards.length c2, .slice (some ⟨b3', o3, sp3⟩) s.tars.length c3] := by
    rw [rowAt_set_lt _ m3, rowAt_old _ m3]; exact r3
  have g4 : rowAt ((h3.alloc (.row [.int .i64 0, .int .i64 0] 0 true)).set h3.next (.row [.int .i64 X, .int .i64 Y] 0 true)) h3.next = some [.int .i64 X, .int .i64 Y] := rowAt_set_self _ _ _ _ _
  generalize ((h3.alloc (.row [.int .i64 0, .int .i64 0] 0 true)).set h3.next (.row [.int .i64 X, .int .i64 Y] 0 true)) = h4 at f4 r4 g4 ⊢
  simp (maxDischargeDepth := 30) only [AMS, AMH, ↓reduceIte, Nat.reduceLT, Nat.reduceEqDiff, Nat.reduceAdd, Nat.reduceMul, reduceCtorEq, decide_true, decide_false, Nat.reduceLeDiff, Int.reduceNe, Int.reduceEq, ne_eq, not_false_eq_true, and_self, fp_26_2, fp_41_0, ix_24, ld_24, ld_26, ld_30, ld_38, part_41, size_24, size_30, size_41, und_24, zero_24, zero_30, f4.ok, r4]
  have n4 : 0 < h4.next := by have := f4.next; omega
  refine W_call (total_25 f4.ok n4 (hs.fr hk f4) (hv.fr hk f4) ok hl hT) ?_
  rintro _ h5 ⟨rfl, fr5⟩
  have f5 := f4.trans fr5
  have r5 := fr5.row' f4.ok r4
  have g5 := fr5.row' f4.ok g4
  rw [hZ]
  simp (maxDischargeDepth := 30) only [AMS, AMH, ↓reduceIte, Nat.reduceLT, Nat.reduceEqDiff, Nat.reduceAdd, Nat.reduceMul, reduceCtorEq, decide_true, decide_false, Nat.reduceLeDiff, Int.reduceNe, Int.reduceEq, ne_eq, not_false_eq_true, and_self, fp_26_2, fp_41_0, ix_24, ld_24, ld_26, ld_30, ld_38, part_41, size_24, size_30, size_41, und_24, zero_24, zero_30, f5.ok, r5]
  refine W_draw [(true, 0), (true, 1), (true, 2), (true, 3), (false, 0), (true, 4), (true, 5), (true, 6), (true, 7), (true, 8), (true, 9)] (by kernel_rfl) ?_
  simp (maxDischargeDepth := 30) only [AMS, AMH, ↓reduceIte, Nat.reduceLT, Nat.reduceEqDiff, Nat.reduceAdd, Nat.reduceMul, reduceCtorEq, decide_true, decide_false, Nat.reduceLeDiff, Int.reduceNe, Int.reduceEq, ne_eq, not_false_eq_true, and_self, fp_26_2, fp_41_0, ix_24, ld_24, ld_26, ld_30, ld_38, part_41, size_24, size_30, size_41, und_24, zero_24, zero_30, f5.ok, r5]
  have n5 : 0 < h5.next := by have := f5.next; omega
  refine W_callP (ends_26 f5.ok n5 (hs.fr hk f5) false (by omega)) ?_
  rintro ev1 h6 ⟨q6, fr6⟩
  have f6 := f5.trans fr6
  have r6 := fr6.row' f5.ok r5
  have g6 := fr6.row' f5.ok g5
  have l6 : LS h6 ev1 (endsL false s.boards) ints 1 := SL.ls ints_len (by simpa [endsL] using q6)
  simp (maxDischargeDepth := 30) only [AMS, AMH, ↓reduceIte, Nat.reduceLT, Nat.reduceEqDiff, Nat.reduceAdd, Nat.reduceMul, reduceCtorEq, decide_true, decide_false, Nat.reduceLeDiff, Int.reduceNe, Int.reduceEq, ne_eq, not_false_eq_true, and_self, AMR, fp_26_2, fp_41_0, ix_24, ld_24, ld_26, ld_30, ld_38, part_41, size_24, size_30, size_41, und_24, zero_24, zero_30, f6.ok, r6]
  have n6 : 0 < h6.next := by have := f6.next; omega
  refine W_callP (total_25 f6.ok n6 (hs.fr hk f6) l6 ok (ends_ok ok false) hT) ?_
  rintro _ h7 ⟨rfl, fr7⟩
  have f7 := f6.trans fr7
  have r7 := fr7.row' f6.ok r6
  have g7 := fr7.row' f6.ok g6
  rw [hX]
  simp (maxDischargeDepth := 30) only [AMS, AMH, ↓reduceIte, Nat.reduceLT, Nat.reduceEqDiff, Nat.reduceAdd, Nat.reduceMul, reduceCtorEq, decide_true, decide_false, Nat.reduceLeDiff, Int.reduceNe, Int.reduceEq, ne_eq, not_false_eq_true, and_self, AMR, fp_26_2, fp_41_0, ix_24, ld_24, ld_26, ld_30, ld_38, part_41, size_24, size_30, size_41, und_24, zero_24, zero_30, f7.ok, r7]
  refine W_draw [(true, 0), (true, 1), (true, 2), (true, 3), (false, 0), (true, 4), (true, 5), (true, 6), (true, 7), (true, 8), (true, 9)] (by kernel_rfl) ?_
  simp (maxDischargeDepth := 30) only [AMS, AMH, ↓reduceIte, Nat.reduceLT, Nat.reduceEqDiff, Nat.reduceAdd, Nat.reduceMul, reduceCtorEq, decide_true, decide_false, Nat.reduceLeDiff, Int.reduceNe, Int.reduceEq, ne_eq, not_false_eq_true, and_self, fp_26_2, fp_41_0, ix_24, ld_24, ld_26, ld_30, ld_38, part_41, size_24, size_30, size_41, und_24, zero_24, zero_30, f7.ok, r7]
  have n7 : 0 < h7.next := by have := f7.next; omega
  refine W_callP (ends_26 f7.ok n7 (hs.fr hk f7) true (by omega)) ?_
  rintro ev2 h8 ⟨q8, fr8⟩
  have f8 := f7.trans fr8
  have r8 := fr8.row' f7.ok r7
  have g8 := fr8.row' f7.ok g7
  have l8 : LS h8 ev2 (endsL true s.boards) ints 1 := SL.ls ints_len (by simpa [endsL] using q8)
  simp (maxDischargeDepth := 30) only [AMS, AMH, ↓reduceIte, Nat.reduceLT, Nat.reduceEqDiff, Nat.reduceAdd, Nat.reduceMul, reduceCtorEq, decide_true, decide_false, Nat.reduceLeDiff, Int.reduceNe, Int.reduceEq, ne_eq, not_false_eq_true, and_self, AMR, fp_26_2, fp_41_0, ix_24, ld_24, ld_26, ld_30, ld_38, part_41, size_24, size_30, size_41, und_24, zero_24, zero_30, f8.ok, r8]
  have n8 : 0 < h8.next := by have := f8.next; omega
  refine W_callP (total_25 f8.ok n8 (hs.fr hk f8) l8 ok (ends_ok ok true) hT) ?_
  rintro _ h9 ⟨rfl, fr9⟩
  have f9 := f8.trans fr9
  have r9 := fr9.row' f8.ok r8
  have g9 := fr9.row' f8.ok g8
  rw [hY]
  simp (maxDischargeDepth := 30) only [AMS, AMH, ↓reduceIte, Nat.reduceLT, Nat.reduceEqDiff, Nat.reduceAdd, Nat.reduceMul, reduceCtorEq, decide_true, decide_false, Nat.reduceLeDiff, Int.reduceNe, Int.reduceEq, ne_eq, not_false_eq_true, and_self, AMR, fp_26_2, fp_41_0, ix_24, ld_24, ld_26, ld_30, ld_38, part_41, size_24, size_30, size_41, und_24, zero_24, zero_30, f9.ok, r9, ne_self]
  refine W_draw [(true, 0), (true, 1), (true, 2), (true, 3), (false, 0), (true, 4), (true, 5), (true, 6), (true, 7), (true, 8), (true, 9), (true, 10), (true, 11), (true, 12), (true, 13), (true, 14), (true, 15), (true, 16), (true, 17), (true, 18), (true, 19), (true, 20), (true, 21), (true, 22), (true, 23), (true, 24), (true, 25), (true, 26), (true, 27), (true, 28), (true, 29), (true, 30), (true, 31), (true, 32), (true, 33), (true, 34), (true, 35), (true, 36)] (by kernel_rfl) ?_
  simp (maxDischargeDepth := 30) only [AMS, AMH, ↓reduceIte, Nat.reduceLT, Nat.reduceEqDiff, Nat.reduceAdd, Nat.reduceMul, reduceCtorEq, decide_true, decide_false, Nat.reduceLeDiff, Int.reduceNe, Int.reduceEq, ne_eq, not_false_eq_true, and_self, AMR, fp_26_2, fp_41_0, ix_24, ld_24, ld_26, ld_30, ld_38, part_41, size_24, size_30, size_41, und_24, zero_24, zero_30, f9.ok, g9]
  refine W_callP (span_27 X Y f9.ok) ?_
  rintro _ h10 ⟨rfl, fr10⟩
  have f10 := f9.trans fr10
  have r10 := fr10.row' f9.ok r9
  have g10 := fr10.row' f9.ok g9
  have rr3' := f10.row' hk rr3
  have d1 : decide (X ≥ 0) = true := by simpa using b0
  have d2 : decide (Z ≥ X) = true := by simpa using b1
  have d3 : decide (Z ≤ Y) = true := by simpa using b2
  cases hk3 : (T.kind == 3) with
  | true =>
    simp (maxDischargeDepth := 30) only [AMS, AMH, ↓reduceIte, Nat.reduceLT, Nat.reduceEqDiff, Nat.reduceAdd, Nat.reduceMul, reduceCtorEq, decide_true, decide_false, Nat.reduceLeDiff, Int.reduceNe, Int.reduceEq, ne_eq, not_false_eq_true, and_self, AMR, fp_26_2, fp_41_0, ix_24, ld_24, ld_26, ld_30, ld_38, part_41, size_24, size_30, size_41, und_24, zero_24, zero_30, f10.ok, g10, r10, eq_30, and_self', d1, d2, d3, hil, rr3', k3, hk3, known_23]
    exact ⟨trivial, f10⟩
  | false =>
    have d4 : (X == Y) = true := by simpa using b3 (by simpa using hk3)
    simp (maxDischargeDepth := 30) only [AMS, AMH, ↓reduceIte, Nat.reduceLT, Nat.reduceEqDiff, Nat.reduceAdd, Nat.reduceMul, reduceCtorEq, decide_true, decide_false, Nat.reduceLeDiff, Int.reduceNe, Int.reduceEq, ne_eq, not_false_eq_true, and_self, AMR, fp_26_2, fp_41_0, ix_24, ld_24, ld_26, ld_30, ld_38, part_41, size_24, size_30, size_41, und_24, zero_24, zero_30, f10.ok, g10, r10, eq_30, and_self', d1, d2, d3, hil, rr3', k3, hk3, d4, known_23]
    exact ⟨trivial, f10⟩
end Go.Am
