/- Parts 141, 142 of the abstract machine over this program, joined: what each part says stands at its head. -/
import Derived.Test.YtfnkjclplfhjcaaGreatDoorJ138
set_option linter.unusedSimpArgs false
set_option linter.unusedVariables false
/- The abstract machine, part 141: contracts of the specification: numbers in decimal. -/
namespace Go.Am
open Go Go.Proofs
theorem F133_Am141 : type_of% (And.intro @bs_88 <| And.intro @ix_88 <| And.intro @part_5 <| And.intro @size_5 <| And.intro @size_88 <| And.intro @und_3 <| And.intro @und_5 <| And.intro @und_88 <| And.intro @und_9 @zero_88) := And.intro @bs_88 <| And.intro @ix_88 <| And.intro @part_5 <| And.intro @size_5 <| And.intro @size_88 <| And.intro @und_3 <| And.intro @und_5 <| And.intro @und_88 <| And.intro @und_9 @zero_88

theorem digs_more : ∀ (f n : Nat), n < 10 ^ (f + 1) → digs (f + 2) n = digs (f + 1) n
  | 0, n, h => by
    have : Nat.ble n 9 = true := Nat.ble_eq_true_of_le (by simp at h; omega)
    simp only [digs, this]
  | f + 1, n, h => by
    have ih := digs_more f (n / 10) (by rw [Nat.pow_succ] at h; omega)
    unfold digs
    rw [ih]
theorem dec_step {n : Nat} (h : 10 ≤ n) (h2 : n < 1000000000) : digs 9 n = digs 9 (n / 10) ++ [UInt8.ofNat (48 + n % 10)] := by
  have hb : Nat.ble n 9 = false := by cases hb : Nat.ble n 9 with | true => exact absurd (Nat.le_of_ble_eq_true hb) (by omega) | false => rfl
  rw [digs_more 7 (n / 10) (by simp; omega)]
  show (match Nat.ble n 9 with | true => [UInt8.ofNat (48 + n)] | false => digs 8 (n / 10) ++ [UInt8.ofNat (48 + n % 10)]) = _
  rw [hb]
theorem digs_len : ∀ (f n : Nat), (digs f n).length ≤ f
  | 0, _ => Nat.le_refl _
  | f + 1, n => by
    unfold digs
    split
    · simp
    · have := digs_len f (n / 10)
      simp; omega
theorem decZ_len (n : Int) : (decZ n).length ≤ 10 := by
  unfold decZ dec
  split
  · have := digs_len 9 (-n).toNat
    simp; omega
  · have := digs_len 9 n.toNat
    omega
theorem cv_3_5 {n : Int} (h1 : 0 ≤ n) (h2 : n < 256) (h : Heap) : aConvert CC 3 5 (.int .i64 n) h = some (.val (.int .u8 n)) := by
  have : aConvert CC 3 5 (.int .i64 n) h = some (.val (.int .u8 (IntKind.u8.wrap n))) := by
    unfold aConvert
    rw [und_3, und_5]; rfl
  rw [this, wrap8 h1 h2]
theorem cv_88_9 {h : Heap} {b : Nat} {sp : Option Nat} {n : Int} (hr : rowAt h b = some [.int .u8 n]) : aConvert CC 88 9 (.slice (some ⟨b, 0, sp⟩) 1 1) h = some (.val (.string (bs [UInt8.ofNat n.toNat]))) := by
  unfold aConvert
  rw [und_88, und_9]
  simp only [obind_some, convSl, und_5, obind_some, isU8, guardB_true]
  have hc : sliceCells h 1 1 (.slice (some ⟨b, 0, sp⟩) 1 1) = some [.int .u8 n] := by
    show obind (rowAt h b) _ = _
    rw [hr]; rfl
  rw [hc, obind_some]
  have hb : bytesOf [.int .u8 n] = some [UInt8.ofNat n.toNat] := by
    unfold bytesOf
    rw [lrec_cons, lrec_nil]
    unfold byteOf
    simp only [obind_some]
  rw [hb, obind_some]
  unfold mkStr bs
  rfl

set_option maxRecDepth 10000 in
set_option maxHeartbeats 1000000 in
theorem decimal_133 (k : Nat) : ∀ (n : Int), n.natAbs < 10 ^ (k + 1) → k ≤ 8 → ∀ {h : Heap}, HOK h → CW CC 133 [.int .i64 n] h fun r h' => r = .string (bs (decZ n)) ∧ Fr h h' := by
  induction k using Nat.strongRecOn with
  | _ k ih =>
  intro n hn hk9 h hk
  have hpk : 10 ^ k ≤ 10 ^ 8 := Nat.pow_le_pow_right (by omega) (by omega)
  have hn9 : n.natAbs < 1000000000 := by rw [Nat.pow_succ] at hn; omega
  refine CW_in Tryz.f133 (by kernel_rfl) (by kernel_rfl) rfl rfl ?_
  simp only [Tryz.f133, bs_mk]
  by_cases hneg : n < 0
  · obtain ⟨m, rfl⟩ : ∃ m : Nat, n = -(m : Int) := ⟨n.natAbs, by omega⟩
    have hm : m < 1000000000 := by omega
    have d2 : decide (-(m : Int) < 0) = true := by simp; omega
    by_cases h10 : m < 10
    · have d1 : decide (-(m : Int) > -10) = true := by simp; omega
      have e1 : (48 : Int) - -(m : Int) = ((48 + m : Nat) : Int) := by omega
      have f1 : Fr h (h.alloc (.row [.int .u8 ((48 + m : Nat) : Int)] 1 true)) := (Fr.refl hk).alloc _
      simp (maxDischargeDepth := 30) only [AMS, AMH, ↓reduceIte, Nat.reduceLT, Nat.reduceEqDiff, Nat.reduceAdd, Nat.reduceMul, reduceCtorEq, decide_true, decide_false, Nat.reduceLeDiff, Int.reduceNe, Int.reduceEq, ne_eq, not_false_eq_true, and_self, F133_Am141, hk, d1, d2, bs_mk, e1, wrap64 (n := ((48 + m : Nat) : Int)) (by omega) (by omega), cv_3_5 (n := ((48 + m : Nat) : Int)) (by omega) (by omega), cv_88_9 (h := h.alloc (.row [.int .u8 ((48 + m : Nat) : Int)] 1 true)) (b := h.next) (rowAt_new _ _ _ _), s_add (a := [45]) (b := [UInt8.ofNat ((48 + m : Nat) : Int).toNat]) (by simp)]
      refine ⟨?_, f1⟩
      unfold decZ
      rw [if_pos hneg]
      unfold dec
      rw [show (- -(m : Int)).toNat = m by omega, digs_one m h10]
      rfl
    · have d1 : decide (-(m : Int) > -10) = false := by simp; omega
      have i10 : (10 : Int) ≠ 0 := by decide
      have q1 : (-(m : Int)).tdiv 10 = -((m / 10 : Nat) : Int) := by rw [Int.neg_tdiv]; rfl
      have q2 : (48 : Int) - (-(m : Int)).tmod 10 = ((48 + m % 10 : Nat) : Int) := by
        rw [Int.neg_tmod]
        have : (m : Int).tmod 10 = ((m % 10 : Nat) : Int) := rfl
        rw [this]; omega
      have f1 : Fr h (h.alloc (.row [.int .u8 ((48 + m % 10 : Nat) : Int)] 1 true)) := (Fr.refl hk).alloc _
      have y1 : (h.alloc (.row [.int .u8 ((48 + m % 10 : Nat) : Int)] 1 true)).get h.next = some (.row [.int .u8 ((48 + m % 10 : Nat) : Int)] 1 true) := get_at _ rfl
      have r1 : rowAt (h.alloc (.row [.int .u8 ((48 + m % 10 : Nat) : Int)] 1 true)) h.next = some [.int .u8 ((48 + m % 10 : Nat) : Int)] := rowAt_new _ _ _ _
      have g1 := wrap64 (n := -((m / 10 : Nat) : Int)) (by omega) (by omega)
      have g2 := wrap64 (n := ((48 + m % 10 : Nat) : Int)) (by omega) (by omega)
      have g3 := fun h => cv_3_5 (n := ((48 + m % 10 : Nat) : Int)) (by omega) (by omega) h
      simp (maxDischargeDepth := 30) only [AMS, AMH, ↓reduceIte, Nat.reduceLT, Nat.reduceEqDiff, Nat.reduceAdd, Nat.reduceMul, reduceCtorEq, decide_true, decide_false, Nat.reduceLeDiff, Int.reduceNe, Int.reduceEq, ne_eq, not_false_eq_true, and_self, F133_Am141, hk, d1, d2, bs_mk]
      refine W_draw [(true, 0), (true, 1), (true, 3), (true, 4), (true, 5), (true, 6), (true, 7), (true, 8), (true, 2), (false, 6), (false, 7), (false, 8), (true, 9), (true, 10)] (by kernel_rfl) ?_
      simp (maxDischargeDepth := 30) only [AMS, AMH, ↓reduceIte, Nat.reduceLT, Nat.reduceEqDiff, Nat.reduceAdd, Nat.reduceMul, reduceCtorEq, decide_true, decide_false, Nat.reduceLeDiff, Int.reduceNe, Int.reduceEq, ne_eq, not_false_eq_true, and_self, AMR, F133_Am141, hk, I_quo, I_rem, i10, q1, q2, g1, g2, g3, cv_88_9 r1]
      generalize (h.alloc (.row [.int .u8 ((48 + m % 10 : Nat) : Int)] 1 true)) = h1 at f1 y1 r1 ⊢
      obtain ⟨j, rfl⟩ : ∃ j, k = j + 1 := ⟨k - 1, by
        rcases Nat.eq_zero_or_pos k with q | q
        · subst q; omega
        · omega⟩
      refine W_callP (ih j (by omega) (-((m / 10 : Nat) : Int)) (by rw [Nat.pow_succ] at hn; omega) (by omega) f1.ok) ?_
      rintro _ h2 ⟨rfl, fr2⟩
      have y2 := fr2.get' f1.ok y1
      have r2 := fr2.row' f1.ok r1
      have dl := decZ_len (-((m / 10 : Nat) : Int))
      simp (maxDischargeDepth := 30) only [AMS, AMH, ↓reduceIte, Nat.reduceLT, Nat.reduceEqDiff, Nat.reduceAdd, Nat.reduceMul, reduceCtorEq, decide_true, decide_false, Nat.reduceLeDiff, Int.reduceNe, Int.reduceEq, ne_eq, not_false_eq_true, and_self, AMR, F133_Am141, fr2.ok, I_quo, I_rem, i10, q1, q2, g1, g2, g3, y2, cv_88_9 r2, s_add (a := decZ (-((m / 10 : Nat) : Int))) (b := [UInt8.ofNat ((48 + m % 10 : Nat) : Int).toNat]) (by simp only [List.length_cons, List.length_nil]; omega)]
      refine ⟨?_, f1.trans fr2⟩
      unfold decZ
      rw [if_pos hneg, if_pos (by omega)]
      unfold dec
      rw [show (- -(m : Int)).toNat = m by omega, show (- -((m / 10 : Nat) : Int)).toNat = m / 10 by omega, dec_step (by omega) hm]
      try rfl
  · obtain ⟨m, rfl⟩ : ∃ m : Nat, n = (m : Int) := ⟨n.natAbs, by omega⟩
    have hm : m < 1000000000 := by omega
    have d1 : decide ((m : Int) > -10) = true := by simp; omega
    have d2 : decide ((m : Int) < 0) = false := decide_eq_false (by omega)
    by_cases h10 : m < 10
    · have d3 : decide ((m : Int) < 10) = true := by simp; omega
      have e1 : (48 : Int) + (m : Int) = ((48 + m : Nat) : Int) := by omega
      have f1 : Fr h (h.alloc (.row [.int .u8 ((48 + m : Nat) : Int)] 1 true)) := (Fr.refl hk).alloc _
      simp (maxDischargeDepth := 30) only [AMS, AMH, ↓reduceIte, Nat.reduceLT, Nat.reduceEqDiff, Nat.reduceAdd, Nat.reduceMul, reduceCtorEq, decide_true, decide_false, Nat.reduceLeDiff, Int.reduceNe, Int.reduceEq, ne_eq, not_false_eq_true, and_self, F133_Am141, hk, d1, d2, d3, e1, wrap64 (n := ((48 + m : Nat) : Int)) (by omega) (by omega), cv_3_5 (n := ((48 + m : Nat) : Int)) (by omega) (by omega), cv_88_9 (h := h.alloc (.row [.int .u8 ((48 + m : Nat) : Int)] 1 true)) (b := h.next) (rowAt_new _ _ _ _)]
      refine ⟨?_, f1⟩
      unfold decZ
      rw [if_neg (by omega)]
      unfold dec
      rw [show ((m : Int)).toNat = m by omega, digs_one m h10]
      try rfl
    · have d3 : decide ((m : Int) < 10) = false := by simp; omega
      have i10 : (10 : Int) ≠ 0 := by decide
      have q1 : ((m : Int)).tdiv 10 = ((m / 10 : Nat) : Int) := rfl
      have q2 : (48 : Int) + ((m : Int)).tmod 10 = ((48 + m % 10 : Nat) : Int) := by
        have : (m : Int).tmod 10 = ((m % 10 : Nat) : Int) := rfl
        rw [this]; omega
      have f1 : Fr h (h.alloc (.row [.int .u8 ((48 + m % 10 : Nat) : Int)] 1 true)) := (Fr.refl hk).alloc _
      have y1 : (h.alloc (.row [.int .u8 ((48 + m % 10 : Nat) : Int)] 1 true)).get h.next = some (.row [.int .u8 ((48 + m % 10 : Nat) : Int)] 1 true) := get_at _ rfl
      have r1 : rowAt (h.alloc (.row [.int .u8 ((48 + m % 10 : Nat) : Int)] 1 true)) h.next = some [.int .u8 ((48 + m % 10 : Nat) : Int)] := rowAt_new _ _ _ _
      have g1 := wrap64 (n := ((m / 10 : Nat) : Int)) (by omega) (by omega)
      have g2 := wrap64 (n := ((48 + m % 10 : Nat) : Int)) (by omega) (by omega)
      have g3 := fun h => cv_3_5 (n := ((48 + m % 10 : Nat) : Int)) (by omega) (by omega) h
      simp (maxDischargeDepth := 30) only [AMS, AMH, ↓reduceIte, Nat.reduceLT, Nat.reduceEqDiff, Nat.reduceAdd, Nat.reduceMul, reduceCtorEq, decide_true, decide_false, Nat.reduceLeDiff, Int.reduceNe, Int.reduceEq, ne_eq, not_false_eq_true, and_self, F133_Am141, hk, d1, d2, d3]
      refine W_draw [(true, 0), (true, 1), (true, 3), (true, 4), (true, 5), (true, 6), (true, 7), (true, 8), (true, 2), (false, 6), (false, 7), (false, 8), (true, 9), (true, 10)] (by kernel_rfl) ?_
      simp (maxDischargeDepth := 30) only [AMS, AMH, ↓reduceIte, Nat.reduceLT, Nat.reduceEqDiff, Nat.reduceAdd, Nat.reduceMul, reduceCtorEq, decide_true, decide_false, Nat.reduceLeDiff, Int.reduceNe, Int.reduceEq, ne_eq, not_false_eq_true, and_self, AMR, F133_Am141, hk, I_quo, I_rem, i10, q1, q2, g1, g2, g3, cv_88_9 r1]
      generalize (h.alloc (.row [.int .u8 ((48 + m % 10 : Nat) : Int)] 1 true)) = h1 at f1 y1 r1 ⊢
      obtain ⟨j, rfl⟩ : ∃ j, k = j + 1 := ⟨k - 1, by
        rcases Nat.eq_zero_or_pos k with q | q
        · subst q; omega
        · omega⟩
      refine W_callP (ih j (by omega) ((m / 10 : Nat) : Int) (by rw [Nat.pow_succ] at hn; omega) (by omega) f1.ok) ?_
      rintro _ h2 ⟨rfl, fr2⟩
      have y2 := fr2.get' f1.ok y1
      have r2 := fr2.row' f1.ok r1
      have dl := decZ_len ((m / 10 : Nat) : Int)
      simp (maxDischargeDepth := 30) only [AMS, AMH, ↓reduceIte, Nat.reduceLT, Nat.reduceEqDiff, Nat.reduceAdd, Nat.reduceMul, reduceCtorEq, decide_true, decide_false, Nat.reduceLeDiff, Int.reduceNe, Int.reduceEq, ne_eq, not_false_eq_true, and_self, AMR, F133_Am141, fr2.ok, I_quo, I_rem, i10, q1, q2, g1, g2, g3, y2, cv_88_9 r2, s_add (a := decZ ((m / 10 : Nat) : Int)) (b := [UInt8.ofNat ((48 + m % 10 : Nat) : Int).toNat]) (by simp only [List.length_cons, List.length_nil]; omega)]
      refine ⟨?_, f1.trans fr2⟩
      unfold decZ
      rw [if_neg (by omega), if_neg (by omega)]
      unfold dec
      rw [show ((m : Int)).toNat = m by omega, show (((m / 10 : Nat) : Int)).toNat = m / 10 by omega, dec_step (by omega) hm]
      try rfl
theorem decimal_pos {n : Int} (hn : okN n) {h : Heap} (hk : HOK h) : CW CC 133 [.int .i64 n] h fun r h' => r = .string (bs (dec n)) ∧ Fr h h' := by
  obtain ⟨r, h', e, rfl, f⟩ := decimal_133 8 n (by have := hn.1; have := hn.2; omega) (Nat.le_refl _) hk
  refine ⟨_, h', e, ?_, f⟩
  unfold decZ
  rw [if_neg (by have := hn.1; omega)]
end Go.Am

/- The abstract machine, part 142: contracts of the specification: rows, parts of texts, lists of words. -/
namespace Go.Am
open Go Go.Proofs
theorem F96_Am142 : type_of% (And.intro @ix_22 <| And.intro @ld_3 <| And.intro @len_22 <| And.intro @part_3 <| And.intro @size_22 <| And.intro @size_3 <| And.intro @und_22 @zero_22) := And.intro @ix_22 <| And.intro @ld_3 <| And.intro @len_22 <| And.intro @part_3 <| And.intro @size_22 <| And.intro @size_3 <| And.intro @und_22 @zero_22
theorem F97_Am142 : type_of% (And.intro @bs_117 <| And.intro @ix_117 <| And.intro @part_9 <| And.intro @size_117 <| And.intro @size_9 <| And.intro @und_117 @zero_117) := And.intro @bs_117 <| And.intro @ix_117 <| And.intro @part_9 <| And.intro @size_117 <| And.intro @size_9 <| And.intro @und_117 @zero_117
theorem F101_Am142 : type_of% (And.intro @bs_117 <| And.intro @ix_117 <| And.intro @len_9 <| And.intro @part_9 <| And.intro @size_117 <| And.intro @size_9 <| And.intro @und_117 <| And.intro @und_9 <| And.intro @zero_117 @zero_9) := And.intro @bs_117 <| And.intro @ix_117 <| And.intro @len_9 <| And.intro @part_9 <| And.intro @size_117 <| And.intro @size_9 <| And.intro @und_117 <| And.intro @und_9 <| And.intro @zero_117 @zero_9
theorem F135_Am142 : type_of% (And.intro @ix_117 <| And.intro @ld_9 <| And.intro @len_117 <| And.intro @part_9 <| And.intro @size_117 <| And.intro @size_9 <| And.intro @und_117 @zero_117) := And.intro @ix_117 <| And.intro @ld_9 <| And.intro @len_117 <| And.intro @part_9 <| And.intro @size_117 <| And.intro @size_9 <| And.intro @und_117 @zero_117

theorem i_ok {i n : Nat} (h : i < n) (hn : n ≤ 1000000) : IntKind.i64.wrap ((i : Int) + 1) = ((i + 1 : Nat) : Int) := by
  rw [wrap64 (by omega) (by omega)]; rfl

set_option maxRecDepth 10000 in
set_option maxHeartbeats 1000000 in
theorem row_96 {w : Bs} {v : Value} {ns : List Int} {h : Heap} (hk : HOK h) (hv : LS h v ns ints 1) (hn : ∀ n ∈ ns, okN n) (hl : ns.length ≤ 100) (hw : w.length ≤ 100) :
    CW CC 96 [.string (bs w), v] h fun r h' => r = .string (bs (glue 32 (w :: ns.map dec))) ∧ Fr h h' := by
  obtain ⟨p, c, rfl, hx⟩ := hv.open
  refine CW_in Tryz.f96 (by kernel_rfl) (by kernel_rfl) rfl rfl ?_
  simp only [Tryz.f96, bs_mk]
  simp (maxDischargeDepth := 30) only [AMS, AMH, ↓reduceIte, Nat.reduceLT, Nat.reduceEqDiff, Nat.reduceAdd, Nat.reduceMul, reduceCtorEq, decide_true, decide_false, Nat.reduceLeDiff, Int.reduceNe, Int.reduceEq, ne_eq, not_false_eq_true, and_self, F96_Am142, hk, bs_mk]
  refine W_loop ns.length (fun m f h' => ∃ i, i ≤ ns.length ∧ m = ns.length - i ∧ f 1 = .slice p ns.length c ∧ f 5 = .int .i64 i ∧ f 0 = .string (bs (w ++ tailB (ns.take i))) ∧ Fr h h')
    ⟨0, by omega, by omega, by simp [upd_at, argsFn_at], by simp [upd_at], by simp [upd_at, argsFn_at, tailB], Fr.refl hk⟩ ?_
  rintro m f h1 ⟨i, hi, rfl, g1, g5, g0, f1⟩ ih
  have k1 := f1.ok
  by_cases hil : i < ns.length
  · obtain ⟨n, gn⟩ : ∃ n, ns[i]? = some n := ⟨_, List.getElem?_eq_getElem hil⟩
    rcases hx with hx | ⟨b, o, sp, row, rfl, hr, hx⟩
    · rw [hx] at hil; simp at hil
    have hcell : row[o + i]? = some (.int .i64 n) := by
      have := (hx _ _ gn).2 0 (by omega)
      simpa [ints] using this
    have on := hn n (List.mem_of_getElem? gn)
    have a1 := (dec_num on).2.2.1
    have a2 := tail_len (ns := ns.take i) fun x hx => hn x (take_mem hx)
    have a3 : (ns.take i).length ≤ 100 := by simp; omega
    have hr1 := f1.row' hk hr
    simp (maxDischargeDepth := 30) only [AMS, AMH, ↓reduceIte, Nat.reduceLT, Nat.reduceEqDiff, Nat.reduceAdd, Nat.reduceMul, reduceCtorEq, decide_true, decide_false, Nat.reduceLeDiff, Int.reduceNe, Int.reduceEq, ne_eq, not_false_eq_true, and_self, F96_Am142, k1, g1, g5, g0, lt_t hil, hil, Nat.mul_one, hr1, hcell, bs_mk, s_add (a := w ++ tailB (ns.take i)) (b := [32]) (by simp only [List.length_append, List.length_cons, List.length_nil]; omega)]
    refine W_call (decimal_pos on k1) ?_
    rintro _ h2 ⟨rfl, fr2⟩
    have e : (w ++ tailB (ns.take i) ++ [32]) ++ dec n = w ++ tailB (ns.take (i + 1)) := by rw [tail_snoc gn]; simp
    simp (maxDischargeDepth := 30) only [AMS, AMH, ↓reduceIte, Nat.reduceLT, Nat.reduceEqDiff, Nat.reduceAdd, Nat.reduceMul, reduceCtorEq, decide_true, decide_false, Nat.reduceLeDiff, Int.reduceNe, Int.reduceEq, ne_eq, not_false_eq_true, and_self, F96_Am142, fr2.ok, g1, g5, bs_mk, s_add (a := w ++ tailB (ns.take i) ++ [32]) (b := dec n) (by simp only [List.length_append, List.length_cons, List.length_nil]; omega), e, i_ok hil (by omega)]
    refine ih (ns.length - (i + 1)) _ _ (by omega) ?_
    exact ⟨i + 1, by omega, rfl, by simp [upd_at, g1], by simp [upd_at], by simp [upd_at], f1.trans fr2⟩
  · have : i = ns.length := by omega
    subst this
    simp (maxDischargeDepth := 30) only [AMS, AMH, ↓reduceIte, Nat.reduceLT, Nat.reduceEqDiff, Nat.reduceAdd, Nat.reduceMul, reduceCtorEq, decide_true, decide_false, Nat.reduceLeDiff, Int.reduceNe, Int.reduceEq, ne_eq, not_false_eq_true, and_self, F96_Am142, k1, g1, g5, g0, lt_f]
    rw [List.take_length, glue_tail]
    exact ⟨rfl, f1⟩

/- PARTS OF A STRING -/
theorem sl_9 {l : Bs} {lo hi : Nat} (h1 : lo ≤ hi) (h2 : hi ≤ l.length) : aSlice CC 9 (.string (bs l)) (some (.int .i64 lo)) (some (.int .i64 hi)) none = some (.string (bs ((l.drop lo).take (hi - lo)))) := by
  unfold aSlice
  rw [und_9]
  show sliceStr l (some (.int .i64 lo)) (some (.int .i64 hi)) = _
  unfold sliceStr
  simp only [bound_at, natIn_at, Nat.ble_eq_true_of_le h2, Nat.ble_eq_true_of_le h1, Nat.ble_eq_true_of_le (Nat.zero_le hi), Nat.ble_eq_true_of_le (Nat.zero_le lo), Bool.and_self, guardB_true, obind_some]
  rfl
theorem sl_9n {l : Bs} {lo : Nat} (h1 : lo ≤ l.length) : aSlice CC 9 (.string (bs l)) (some (.int .i64 lo)) none none = some (.string (bs (l.drop lo))) := by
  have e : aSlice CC 9 (.string (bs l)) (some (.int .i64 lo)) none none = some (.string (bs ((l.drop lo).take (l.length - lo)))) := by
    unfold aSlice
    rw [und_9]
    show sliceStr l (some (.int .i64 lo)) none = _
    unfold sliceStr
    simp only [bound_at, bound_none, natIn_at, Nat.ble_eq_true_of_le h1, Nat.ble_eq_true_of_le (Nat.zero_le lo), Bool.and_self, guardB_true, obind_some]
    rfl
  rw [e, List.take_of_length_le (by simp)]
theorem cut_part {c : UInt8} {s : Bs} {fr i : Nat} (h1 : fr ≤ i) (hi : s[i]? = some c) (hn : ∀ (j : Nat) b, fr ≤ j → j < i → s[j]? = some b → b ≠ c) : cutAt c (s.drop fr) = (s.drop fr).take (i - fr) :: cutAt c (s.drop (i + 1)) := by
  obtain ⟨hlt, e⟩ := List.getElem?_eq_some_iff.1 hi
  have hs : s.drop fr = (s.drop fr).take (i - fr) ++ c :: s.drop (i + 1) := by
    conv => lhs; rw [← List.take_append_drop (i - fr) (s.drop fr)]
    rw [List.drop_drop, show fr + (i - fr) = i by omega, List.drop_eq_getElem_cons hlt, e]
  conv => lhs; rw [hs]
  refine cut_hit _ fun hm => ?_
  obtain ⟨k, hk⟩ := List.getElem?_of_mem hm
  have hk' := (List.getElem?_eq_some_iff.1 hk).1
  simp at hk'
  rw [List.getElem?_take_of_lt (by omega), List.getElem?_drop] at hk
  exact hn (fr + k) c (by omega) (by omega) hk rfl
theorem cut_rest {c : UInt8} {s : Bs} {fr : Nat} (hn : ∀ (j : Nat) b, fr ≤ j → s[j]? = some b → b ≠ c) : cutAt c (s.drop fr) = [s.drop fr] := by
  refine cut_none fun hm => ?_
  obtain ⟨k, hk⟩ := List.getElem?_of_mem hm
  rw [List.getElem?_drop] at hk
  exact hn (fr + k) c (by omega) hk rfl
theorem u8_eq (a b : UInt8) : ((a.toNat : Int) == (b.toNat : Int)) = decide (a = b) := by
  rw [Bool.eq_iff_iff]
  simp only [beq_iff_eq, decide_eq_true_eq]
  constructor
  · intro h; exact UInt8.toNat_inj.1 (by omega)
  · intro h; rw [h]

set_option maxRecDepth 10000 in
set_option maxHeartbeats 1000000 in
theorem split_101 {s : Bs} {c : UInt8} {h : Heap} (hk : HOK h) (hp : 0 < h.next) (hl : s.length ≤ 100000) : CW CC 101 [.string (bs s), .int .u8 c.toNat] h fun r h' => SL h.next h' r ((cutAt c s).flatMap strC) 1 (cutAt c s).length ∧ Fr h h' := by
  refine CW_in Tryz.f101 (by kernel_rfl) (by kernel_rfl) rfl rfl ?_
  simp only [Tryz.f101, bs_mk]
  simp (maxDischargeDepth := 30) only [AMS, AMH, ↓reduceIte, Nat.reduceLT, Nat.reduceEqDiff, Nat.reduceAdd, Nat.reduceMul, reduceCtorEq, decide_true, decide_false, Nat.reduceLeDiff, Int.reduceNe, Int.reduceEq, ne_eq, not_false_eq_true, and_self, F101_Am142, hk, bs_mk]
  refine W_loop s.length (fun m f h' => ∃ i fr out, i ≤ s.length ∧ m = s.length - i ∧ fr ≤ i ∧ f 0 = .string (bs s) ∧ f 1 = .int .u8 c.toNat ∧ f 6 = .int .i64 fr ∧ f 7 = .int .i64 i ∧ cutAt c s = out ++ cutAt c (s.drop fr) ∧ out.length ≤ i ∧
      (∀ (j : Nat) b, fr ≤ j → j < i → s[j]? = some b → b ≠ c) ∧ SL h.next h' (f 5) (out.flatMap strC) 1 out.length ∧ Fr h h')
    ⟨0, 0, [], by omega, by omega, by omega, by simp [upd_at, argsFn_at], by simp [upd_at, argsFn_at], by simp [upd_at], by simp [upd_at], by simp, by simp, fun j b h1 h2 => by omega, by simpa [upd_at] using SL.nil h.next h 1, Fr.refl hk⟩ ?_
  rintro m f h1 ⟨i, fr, out, hi, rfl, hfr, g0, g1, g6, g7, hcut, hout, hn, q5, f1⟩ ih
  have k1 := f1.ok
  by_cases hil : i < s.length
  · obtain ⟨b, gb⟩ : ∃ b, s[i]? = some b := ⟨_, List.getElem?_eq_getElem hil⟩
    have dl : decide ((i : Int) < ((bs s).data.toList.length : Nat)) = true := lt_t hil
    by_cases hbc : b = c
    · subst hbc
      have d1 : decide (b = b) = true := by simp
      obtain ⟨h2, e2, q2, f2, n2, _⟩ := append_one (ts := []) app_117 f1 (by have := f1.next; omega) q5 (v := .string (bs ((s.drop fr).take (i - fr)))) rfl (by omega)
      simp (maxDischargeDepth := 30) only [AMS, AMH, ↓reduceIte, Nat.reduceLT, Nat.reduceEqDiff, Nat.reduceAdd, Nat.reduceMul, reduceCtorEq, decide_true, decide_false, Nat.reduceLeDiff, Int.reduceNe, Int.reduceEq, ne_eq, not_false_eq_true, and_self, F101_Am142, k1, g0, g1, g6, g7, dl, i_9 gb, u8_eq, d1, sl_9 hfr hi, Option.map_some, Option.map_none, e2, f2.ok, i_ok hil (by omega)]
      refine ih (s.length - (i + 1)) _ _ (by omega) ?_
      refine ⟨i + 1, i + 1, out ++ [(s.drop fr).take (i - fr)], by omega, rfl, by omega, by simp [upd_at, g0], by simp [upd_at, g1], by simp [upd_at], by simp [upd_at], ?_, by simp; omega, fun j x h1 h2 => by omega, ?_, f2⟩
      · rw [hcut, cut_part hfr gb hn]; simp
      · rw [flat_snoc]; simpa [upd_at] using q2
    · have d1 : decide (b = c) = false := by simp [hbc]
      simp (maxDischargeDepth := 30) only [AMS, AMH, ↓reduceIte, Nat.reduceLT, Nat.reduceEqDiff, Nat.reduceAdd, Nat.reduceMul, reduceCtorEq, decide_true, decide_false, Nat.reduceLeDiff, Int.reduceNe, Int.reduceEq, ne_eq, not_false_eq_true, and_self, F101_Am142, k1, g0, g1, g6, g7, dl, i_9 gb, u8_eq, d1, i_ok hil (by omega)]
      refine ih (s.length - (i + 1)) _ _ (by omega) ?_
      refine ⟨i + 1, fr, out, by omega, rfl, by omega, by simp [upd_at, g0], by simp [upd_at, g1], by simp [upd_at, g6], by simp [upd_at], hcut, by omega, fun j x h1 h2 hx => ?_, by simpa [upd_at] using q5, f1⟩
      rcases Nat.lt_or_ge j i with q | q
      · exact hn j x h1 q hx
      · have : j = i := by omega
        subst this
        rw [gb] at hx; simp at hx; subst hx; exact hbc
  · have : i = s.length := by omega
    subst this
    have dl : decide ((s.length : Int) < ((bs s).data.toList.length : Nat)) = false := lt_f _
    have hr := cut_rest (c := c) (s := s) (fr := fr) fun j b h1 hb => hn j b h1 (List.getElem?_eq_some_iff.1 hb).1 hb
    obtain ⟨h2, e2, q2, f2, n2, _⟩ := append_one (ts := []) app_117 f1 (by have := f1.next; omega) q5 (v := .string (bs (s.drop fr))) rfl (by omega)
    simp (maxDischargeDepth := 30) only [AMS, AMH, ↓reduceIte, Nat.reduceLT, Nat.reduceEqDiff, Nat.reduceAdd, Nat.reduceMul, reduceCtorEq, decide_true, decide_false, Nat.reduceLeDiff, Int.reduceNe, Int.reduceEq, ne_eq, not_false_eq_true, and_self, F101_Am142, k1, g0, g1, g6, g7, dl, sl_9n hfr, Option.map_some, Option.map_none, e2, f2.ok]
    rw [hcut, hr, flat_snoc, List.length_append]
    exact ⟨q2, f2⟩

set_option maxRecDepth 10000 in
set_option maxHeartbeats 1000000 in
theorem index_135 {x : Bs} {v : Value} {ws : List Bs} {h : Heap} (hk : HOK h) (hv : LS h v ws strC 1) (hl : ws.length ≤ 1000) : CW CC 135 [v, .string (bs x)] h fun r h' => r = .int .i64 (pos x ws 0) ∧ h' = h := by
  obtain ⟨p, c, rfl, hx⟩ := hv.open
  refine CW_in Tryz.f135 (by kernel_rfl) (by kernel_rfl) rfl rfl ?_
  simp only [Tryz.f135]
  simp (maxDischargeDepth := 30) only [AMS, AMH, ↓reduceIte, Nat.reduceLT, Nat.reduceEqDiff, Nat.reduceAdd, Nat.reduceMul, reduceCtorEq, decide_true, decide_false, Nat.reduceLeDiff, Int.reduceNe, Int.reduceEq, ne_eq, not_false_eq_true, and_self, F135_Am142, hk]
  refine W_loop ws.length (fun m f h' => ∃ i, i ≤ ws.length ∧ m = ws.length - i ∧ f 0 = .slice p ws.length c ∧ f 1 = .string (bs x) ∧ f 5 = .int .i64 i ∧ (∀ (j : Nat) w, j < i → ws[j]? = some w → w ≠ x) ∧ h' = h)
    ⟨0, by omega, by omega, by simp [upd_at, argsFn_at], by simp [upd_at, argsFn_at], by simp [upd_at], fun j w hj => by omega, rfl⟩ ?_
  rintro m f h' ⟨i, hi, rfl, g0, g1, g5, hn, rfl⟩ ih
  by_cases hil : i < ws.length
  · obtain ⟨w, gw⟩ : ∃ w, ws[i]? = some w := ⟨_, List.getElem?_eq_getElem hil⟩
    rcases hx with hx | ⟨b, o, sp, row, rfl, hr, hx⟩
    · rw [hx] at hil; simp at hil
    have hcell : row[o + i]? = some (.string (bs w)) := by
      have := (hx _ _ gw).2 0 (by omega)
      simpa [strC] using this
    by_cases hw : w = x
    · subst hw
      have hd : decide (w = w) = true := by simp
      simp (maxDischargeDepth := 30) only [AMS, AMH, ↓reduceIte, Nat.reduceLT, Nat.reduceEqDiff, Nat.reduceAdd, Nat.reduceMul, reduceCtorEq, decide_true, decide_false, Nat.reduceLeDiff, Int.reduceNe, Int.reduceEq, ne_eq, not_false_eq_true, and_self, F135_Am142, hk, g0, g1, g5, lt_t hil, hil, Nat.mul_one, hr, hcell, s_eq, hd]
      exact ⟨by rw [pos_hit gw hn]; simp, trivial⟩
    · have hd : decide (w = x) = false := by simp; exact hw
      simp (maxDischargeDepth := 30) only [AMS, AMH, ↓reduceIte, Nat.reduceLT, Nat.reduceEqDiff, Nat.reduceAdd, Nat.reduceMul, reduceCtorEq, decide_true, decide_false, Nat.reduceLeDiff, Int.reduceNe, Int.reduceEq, ne_eq, not_false_eq_true, and_self, F135_Am142, hk, g0, g1, g5, lt_t hil, hil, Nat.mul_one, hr, hcell, s_eq, hd, i_ok hil (by omega)]
      refine ih (ws.length - (i + 1)) _ _ (by omega) ?_
      refine ⟨i + 1, by omega, rfl, by simp [upd_at, g0], by simp [upd_at, g1], by simp [upd_at], fun j y hj hy => ?_, rfl⟩
      rcases Nat.lt_or_ge j i with q | q
      · exact hn j y q hy
      · have : j = i := by omega
        subst this
        rw [gw] at hy; simp at hy; subst hy; exact hw
  · have : i = ws.length := by omega
    subst this
    simp (maxDischargeDepth := 30) only [AMS, AMH, ↓reduceIte, Nat.reduceLT, Nat.reduceEqDiff, Nat.reduceAdd, Nat.reduceMul, reduceCtorEq, decide_true, decide_false, Nat.reduceLeDiff, Int.reduceNe, Int.reduceEq, ne_eq, not_false_eq_true, and_self, F135_Am142, hk, g0, g1, g5, lt_f]
    refine ⟨?_, trivial⟩
    rw [pos_none]
    intro w hw
    obtain ⟨j, hj⟩ := List.getElem?_of_mem hw
    exact hn j w (List.getElem?_eq_some_iff.1 hj).1 hj

/- LISTS OF WORDS -/
theorem bs5_117 (a b c d e : Value) (ha : cellsOf a = [a]) (hb : cellsOf b = [b]) (hc : cellsOf c = [c]) (hd : cellsOf d = [d]) (he : cellsOf e = [e]) : aBuildSlice CC 117 5 [(0, a), (1, b), (2, c), (3, d), (4, e)] = some (.new (.row [a, b, c, d, e] 1 true) (sliceTo 1 5 5)) := by
  unfold aBuildSlice
  rw [und_117]
  simp only [obind_some, sliceElem, zeroRow, size_9, zero_9]
  show guardB true (guardB true _) = _
  simp only [guardB_true]
  show obind (fillWith (rowPlace 1) [(0, a), (1, b), (2, c), (3, d), (4, e)] [.string ⟨⟨[]⟩⟩, .string ⟨⟨[]⟩⟩, .string ⟨⟨[]⟩⟩, .string ⟨⟨[]⟩⟩, .string ⟨⟨[]⟩⟩]) _ = _
  simp [fill_cons, fill_nil, fill1_eq, rowPlace_eq, ha, hb, hc, hd, he]
theorem kinds_97 {h : Heap} (hk : HOK h) : CW CC 97 [] h fun r h' => r = .slice (some ⟨h.next, 0, some 1⟩) 5 5 ∧ h' = h.alloc (.row (kindList.flatMap strC) 1 true) := by
  refine CW_in Tryz.f97 (by kernel_rfl) (by kernel_rfl) rfl rfl ?_
  simp only [Tryz.f97, bs_mk]
  simp (maxDischargeDepth := 30) only [AMS, AMH, ↓reduceIte, Nat.reduceLT, Nat.reduceEqDiff, Nat.reduceAdd, Nat.reduceMul, reduceCtorEq, decide_true, decide_false, Nat.reduceLeDiff, Int.reduceNe, Int.reduceEq, ne_eq, not_false_eq_true, and_self, F97_Am142, hk, bs5_117]
  exact ⟨by first | rfl | trivial, rfl⟩
theorem rules_98 {h : Heap} (hk : HOK h) : CW CC 98 [] h fun r h' => r = .slice (some ⟨h.next, 0, some 1⟩) 5 5 ∧ h' = h.alloc (.row (ruleList'.flatMap strC) 1 true) := by
  refine CW_in Tryz.f98 (by kernel_rfl) (by kernel_rfl) rfl rfl ?_
  simp only [Tryz.f98, bs_mk]
  simp (maxDischargeDepth := 30) only [AMS, AMH, ↓reduceIte, Nat.reduceLT, Nat.reduceEqDiff, Nat.reduceAdd, Nat.reduceMul, reduceCtorEq, decide_true, decide_false, Nat.reduceLeDiff, Int.reduceNe, Int.reduceEq, ne_eq, not_false_eq_true, and_self, F97_Am142, hk, bs5_117]
  exact ⟨by first | rfl | trivial, rfl⟩
theorem bs2_117 (a b : Value) (ha : cellsOf a = [a]) (hb : cellsOf b = [b]) : aBuildSlice CC 117 2 [(0, a), (1, b)] = some (.new (.row [a, b] 1 true) (sliceTo 1 2 2)) := by
  unfold aBuildSlice
  rw [und_117]
  simp only [obind_some, sliceElem, zeroRow, size_9, zero_9]
  show guardB true (guardB true _) = _
  simp only [guardB_true]
  show obind (fillWith (rowPlace 1) [(0, a), (1, b)] [.string ⟨⟨[]⟩⟩, .string ⟨⟨[]⟩⟩]) _ = _
  simp [fill_cons, fill_nil, fill1_eq, rowPlace_eq, ha, hb]
theorem whens_99 {h : Heap} (hk : HOK h) : CW CC 99 [] h fun r h' => r = .slice (some ⟨h.next, 0, some 1⟩) 2 2 ∧ h' = h.alloc (.row (whenList.flatMap strC) 1 true) := by
  refine CW_in Tryz.f99 (by kernel_rfl) (by kernel_rfl) rfl rfl ?_
  simp only [Tryz.f99, bs_mk]
  simp (maxDischargeDepth := 30) only [AMS, AMH, ↓reduceIte, Nat.reduceLT, Nat.reduceEqDiff, Nat.reduceAdd, Nat.reduceMul, reduceCtorEq, decide_true, decide_false, Nat.reduceLeDiff, Int.reduceNe, Int.reduceEq, ne_eq, not_false_eq_true, and_self, F97_Am142, hk, bs2_117]
  exact ⟨by first | rfl | trivial, rfl⟩
end Go.Am
