/- The abstract machine over this program: strings in equations; Itoa, Split, Join; numbers in decimal, rows, parts of the specification. -/
import Derived.Test.YtfnllpibhjikgaaGreatDoorJP1
set_option linter.unusedSimpArgs false
set_option linter.unusedVariables false
namespace Go.Am
open Go Go.Proofs
theorem F25_P2 : type_of% (And.intro @ix_23 <| And.intro @ld_3 <| And.intro @len_23 <| And.intro @part_3 <| And.intro @size_23 <| And.intro @size_3 <| And.intro @und_23 @zero_23) := And.intro @ix_23 <| And.intro @ld_3 <| And.intro @len_23 <| And.intro @part_3 <| And.intro @size_23 <| And.intro @size_3 <| And.intro @und_23 @zero_23
theorem F28_P2 : type_of% (And.intro @bs_87 <| And.intro @ix_87 <| And.intro @len_9 <| And.intro @part_9 <| And.intro @size_87 <| And.intro @size_9 <| And.intro @und_87 <| And.intro @und_9 <| And.intro @zero_87 @zero_9) := And.intro @bs_87 <| And.intro @ix_87 <| And.intro @len_9 <| And.intro @part_9 <| And.intro @size_87 <| And.intro @size_9 <| And.intro @und_87 <| And.intro @und_9 <| And.intro @zero_87 @zero_9
theorem F57_P2 : type_of% (And.intro @bs_183 <| And.intro @ix_183 <| And.intro @part_5 <| And.intro @size_183 <| And.intro @size_5 <| And.intro @und_183 <| And.intro @und_3 <| And.intro @und_5 <| And.intro @und_9 @zero_183) := And.intro @bs_183 <| And.intro @ix_183 <| And.intro @part_5 <| And.intro @size_183 <| And.intro @size_5 <| And.intro @und_183 <| And.intro @und_3 <| And.intro @und_5 <| And.intro @und_9 @zero_183
theorem F99_P2 : type_of% (And.intro @len_9 <| And.intro @size_9 <| And.intro @und_3 <| And.intro @und_5 <| And.intro @und_9 @zero_9) := And.intro @len_9 <| And.intro @size_9 <| And.intro @und_3 <| And.intro @und_5 <| And.intro @und_9 @zero_9

theorem bs_mk (l : Bs) : ByteArray.mk (List.toArray l) = bs l := rfl
theorem bs_mk' (l : Bs) : ByteArray.mk (Array.mk l) = bs l := rfl
theorem bs_list (l : Bs) : (bs l).data.toList = l := rfl
theorem bs_eta (x : ByteArray) : bs x.data.toList = x := rfl
theorem s_eq (a b : Bs) : strEq (bs a) (bs b) = decide (a = b) := by
  unfold strEq
  rw [byteEq_eq, bs_list, bs_list, Bool.eq_iff_iff, beq_iff_eq, decide_eq_true_eq]
theorem s_add {C : Ctx} {t : TypeId} {c : Bool} {a b : Bs} (h : a.length + b.length ≤ 4611686018427387904) : aBin C .add t c (.string (bs a)) (.string (bs b)) = some (.string (bs (a ++ b))) := by
  have e : aBin C .add t c (.string (bs a)) (.string (bs b)) = guardB (Nat.ble (a.length + b.length) 4611686018427387904) (some (mkStr (a ++ b))) := by simp [aBin, aBinStr, bs_list]
  rw [e, Nat.ble_eq_true_of_le h]
  rfl
theorem i_9 {l : Bs} {k : Nat} {b : UInt8} (h : l[k]? = some b) : aIndex CC 9 (.string (bs l)) (.int .i64 k) = some (.int .u8 b.toNat) := by
  have hk := (List.getElem?_eq_some_iff.1 h).1
  unfold aIndex
  rw [und_9]
  show obind (guardB (Nat.ble (k + 1) l.length) (some k)) (fun j => obind (lget l j) fun b => some (Value.int .u8 b.toNat)) = _
  rw [Nat.ble_eq_true_of_le hk, guardB_true, obind_some, lget_eq, h]
  rfl
theorem cv_5_3 (k : IntKind) (n : Int) (h : Heap) : aConvert CC 5 3 (.int k n) h = some (.val (.int .i64 (IntKind.i64.wrap n))) := by
  unfold aConvert
  rw [und_5, und_3]; rfl
theorem cv_21_3 (k : IntKind) (n : Int) (h : Heap) : aConvert CC 21 3 (.int k n) h = some (.val (.int .i64 (IntKind.i64.wrap n))) := by
  unfold aConvert
  rw [und_21, und_3]; rfl
theorem wrap8 {n : Int} (h1 : 0 ≤ n) (h2 : n < 256) : IntKind.u8.wrap n = n := by
  show (if (false && decide (n % 256 ≥ 128)) = true then n % 256 - 256 else n % 256) = n
  simp only [Bool.false_and, Bool.false_eq_true, if_false]
  omega
theorem wrap32 {n : Int} (h1 : -2147483648 ≤ n) (h2 : n < 2147483648) : IntKind.i32.wrap n = n := by
  show (if (true && decide (n % 4294967296 ≥ 2147483648)) = true then n % 4294967296 - 4294967296 else n % 4294967296) = n
  simp only [Bool.true_and, decide_eq_true_eq]
  split <;> omega
theorem rg_9 (s : FrS) (h : Heap) (dst : Option Tmp) (b : ByteArray) : rangeOp CC 9 dst s h (.string b) = some (.ok (s.put dst (ptrTo h.next)) (h.alloc (.iter b 0))) := by
  unfold rangeOp
  simp only [und_9, obind_some, isStringD, guardB_true]
theorem next_dig {h : Heap} {i k : Nat} {l : Bs} {b : UInt8} (hg : h.get i = some (.iter (bs l) k)) (hb : l[k]? = some b) (hd : isDig b = true) :
    aNext (.pointer (some ⟨i, 0, none⟩)) h = some (.tuple ⟨[.bool true, .int .i64 k, .int .i32 b.toNat]⟩, h.set i (.iter (bs l) (k + 1))) := by
  have hk := (List.getElem?_eq_some_iff.1 hb).1
  have e : aNext (.pointer (some ⟨i, 0, none⟩)) h = nextIn h i (bs l) k (Nat.ble (k + 1) l.length) := by
    unfold aNext
    show obind (some _) _ = _
    rw [obind_some]
    show guardB true (obind (obind (h.get i) iterOf) _) = _
    rw [guardB_true, hg, obind_some]
    rfl
  rw [e, Nat.ble_eq_true_of_le hk]
  unfold nextIn
  rw [decode_dig hb hd]
  rfl
theorem next_not {h : Heap} {i k : Nat} {l : Bs} {b : UInt8} (hg : h.get i = some (.iter (bs l) k)) (hb : l[k]? = some b) (hd : isDig b = false) :
    ∃ (r : Nat) (x : AObj), (r < 48 ∨ 57 < r) ∧ aNext (.pointer (some ⟨i, 0, none⟩)) h = some (.tuple ⟨[.bool true, .int .i64 k, .int .i32 r]⟩, h.set i x) := by
  have hk := (List.getElem?_eq_some_iff.1 hb).1
  have e : aNext (.pointer (some ⟨i, 0, none⟩)) h = nextIn h i (bs l) k (Nat.ble (k + 1) l.length) := by
    unfold aNext
    show obind (some _) _ = _
    rw [obind_some]
    show guardB true (obind (obind (h.get i) iterOf) _) = _
    rw [guardB_true, hg, obind_some]
    rfl
  rw [e, Nat.ble_eq_true_of_le hk]
  exact ⟨_, _, decode_not hb hd, rfl⟩
theorem next_end {h : Heap} {i k : Nat} {l : Bs} (hg : h.get i = some (.iter (bs l) k)) (hk : l.length ≤ k) : aNext (.pointer (some ⟨i, 0, none⟩)) h = some (.tuple ⟨[.bool false]⟩, h) := by
  have e : aNext (.pointer (some ⟨i, 0, none⟩)) h = nextIn h i (bs l) k (Nat.ble (k + 1) l.length) := by
    unfold aNext
    show obind (some _) _ = _
    rw [obind_some]
    show guardB true (obind (obind (h.get i) iterOf) _) = _
    rw [guardB_true, hg, obind_some]
    rfl
  have : Nat.ble (k + 1) l.length = false := by cases hb : Nat.ble (k + 1) l.length with | true => exact absurd (Nat.le_of_ble_eq_true hb) (by omega) | false => rfl
  rw [e, this]
  rfl
theorem CW_spec {C : Ctx} {f : FuncId} {sp : Spec} {args : List Value} {h : Heap} {v : Value} {h' : Heap} {Q : Value → Heap → Prop} (hA : C.A f = some sp) (hs : sp args h = some (.ret v h' none)) (hQ : Q v h') : CW C f args h Q := by
  refine ⟨v, h', ?_, hQ⟩
  unfold callF
  rw [hA]
  exact hs
theorem itoa_126 {n : Int} (h0 : 0 ≤ n) (h1 : n < 1000000000) (h : Heap) : CW CC 95 [.int .i64 n] h fun r h' => r = .string (bs (dec n)) ∧ h' = h := by
  obtain ⟨m, rfl⟩ := Int.eq_ofNat_of_zero_le h0
  refine CW_spec (sp := itoaSpec) (v := .string (bs (dec m))) (h' := h) (by kernel_rfl) ?_ ⟨rfl, rfl⟩
  show guardB (Nat.ble (m + 1) 1000000000) (some (FRes.ret (Value.string ⟨⟨digs 9 m⟩⟩) h none)) = _
  rw [Nat.ble_eq_true_of_le (by omega)]
  rfl
/-- a list of strings -/
def strC (w : Bs) : List Value := [.string (bs w)]
theorem strC_len (w : Bs) : (strC w).length = 1 := rfl
theorem strC_one (ws : List Bs) : allOne (ws.flatMap strC) = true := by
  induction ws with
  | nil => rfl
  | cons w ws ih => exact ih
theorem strC_map (ws : List Bs) : ws.flatMap strC = ws.map fun w => .string (bs w) := by
  induction ws with
  | nil => rfl
  | cons w ws ih => rw [List.flatMap_cons, ih]; rfl
theorem split_128 {t : Bs} {c : UInt8} (ht : t.length ≤ 1000000) {h : Heap} (hk : HOK h) (hp : 0 < h.next) : CW CC 97 [.string (bs t), .string (bs [c])] h fun r h' => SL h.next h' r ((cutAt c t).flatMap strC) 1 (cutAt c t).length ∧ Fr h h' := by
  obtain ⟨e1, e2⟩ := split_cut c t.length t (Nat.le_refl _)
  have ec : Lib.countB (bs t) (bs [c]) = Lib.count t [c] := rfl
  have el : (Lib.splitB (bs [c]) 0 (Lib.count t [c]) (bs t)).map Value.string = (cutAt c t).flatMap strC := by
    have := Lib.splitB_data (bs [c]) 0 (Lib.count t [c]) (bs t)
    rw [strC_map, ← e1]
    show _ = (Lib.splitK (bs [c]).data.toList 0 (Lib.count t [c]) (bs t).data.toList).map _
    rw [← this, List.map_map]
    rfl
  refine CW_spec (sp := splitSpec) (v := sliceTo 1 (cutAt c t).length (cutAt c t).length h.next) (h' := h.alloc (.row ((cutAt c t).flatMap strC) 1 true)) (by kernel_rfl) ?_ ⟨SL.new (Nat.le_refl _) hp _ _ _ (by rw [flat_len strC_len]), (Fr.refl hk).alloc _⟩
  show guardB (Nat.ble 1 (bs [c]).size && Nat.ble ((bs t).size + 1) 4294967281) _ = _
  have g1 : (Nat.ble 1 (bs [c]).size && Nat.ble ((bs t).size + 1) 4294967281) = true := by
    rw [Bool.and_eq_true]
    exact ⟨rfl, Nat.ble_eq_true_of_le (by rw [bs_size]; omega)⟩
  rw [g1, guardB_true, ec, el, e2]
theorem strs_of : ∀ ws : List Bs, strsOf (ws.flatMap strC) = some (ws.map bs)
  | [] => rfl
  | w :: ws => by
    have ih := strs_of ws
    show obind (some (bs w)) (fun x => obind (strsOf (ws.flatMap strC)) fun r => some (x :: r)) = _
    rw [ih]; rfl
theorem SL.val_le {N : Nat} {h : Heap} {v : Value} {l : List Value} {s n : Nat} (q : SL N h v l s n) : ∃ p c, v = .slice p n c ∧ n ≤ c := by
  rcases q with ⟨rfl, _, rfl⟩ | ⟨b, rfl, _⟩
  · exact ⟨_, _, rfl, Nat.le_refl _⟩
  · exact ⟨_, _, rfl, Nat.le_refl _⟩
theorem join_127 {N : Nat} {h : Heap} {v : Value} {ws : List Bs} {p : Bs} (q : SL N h v (ws.flatMap strC) 1 ws.length) (hn : ws.length ≤ 1000000) (hl : (Lib.join ws p).length ≤ 140737488355328) : CW CC 96 [v, .string (bs p)] h fun r h' => r = .string (bs (Lib.join ws p)) ∧ h' = h := by
  have hc := q.cells
  obtain ⟨a, c, rfl, hle⟩ := q.val_le
  refine CW_spec (sp := joinSpec) (v := .string (bs (Lib.join ws p))) (h' := h) (by kernel_rfl) ?_ ⟨rfl, rfl⟩
  show guardB (Nat.ble ws.length c && Nat.ble ws.length 140737488355328) (obind (sliceCells h 1 ws.length (.slice a ws.length c)) fun cells => obind (strsOf cells) fun xs => guardB (Nat.ble (Lib.join (xs.map (·.data.toList)) p).length 140737488355328) (some (FRes.ret (Value.string ⟨⟨Lib.join (xs.map (·.data.toList)) p⟩⟩) h none))) = _
  have g1 : (Nat.ble ws.length c && Nat.ble ws.length 140737488355328) = true := by
    rw [Bool.and_eq_true]
    exact ⟨Nat.ble_eq_true_of_le hle, Nat.ble_eq_true_of_le (by omega)⟩
  have e : (ws.map bs).map (·.data.toList) = ws := by
    rw [List.map_map]
    exact List.map_id'' (fun _ => rfl) ws
  rw [g1, guardB_true, hc, obind_some, strs_of, obind_some, e, Nat.ble_eq_true_of_le hl]
  rfl
theorem cv_3_5 {n : Int} (h1 : 0 ≤ n) (h2 : n < 256) (h : Heap) : aConvert CC 3 5 (.int .i64 n) h = some (.val (.int .u8 n)) := by
  have : aConvert CC 3 5 (.int .i64 n) h = some (.val (.int .u8 (IntKind.u8.wrap n))) := by
    unfold aConvert
    rw [und_3, und_5]; rfl
  rw [this, wrap8 h1 h2]
theorem cv_b9 {h : Heap} {b : Nat} {sp : Option Nat} {n : Int} (hr : rowAt h b = some [.int .u8 n]) : aConvert CC 183 9 (.slice (some ⟨b, 0, sp⟩) 1 1) h = some (.val (.string (bs [UInt8.ofNat n.toNat]))) := by
  unfold aConvert
  rw [und_183, und_9]
  simp only [obind_some, convSl, und_5, obind_some, isU8, guardB_true]
  have hc : sliceCells h 1 1 (.slice (some ⟨b, 0, sp⟩) 1 1) = some [.int .u8 n] := by
    show obind (rowAt h b) _ = _
    rw [hr]; rfl
  rw [hc, obind_some]
  have hb : bytesOf [.int .u8 n] = some [UInt8.ofNat n.toNat] := by
    unfold bytesOf
    rw [lrec_cons, lrec_nil]
    unfold byteOf
    simp only [obind_some]
  rw [hb, obind_some]
  unfold mkStr bs
  rfl
set_option maxRecDepth 10000 in
set_option maxHeartbeats 1000000 in
theorem decimal_133 (k : Nat) : ∀ (n : Int), n.natAbs < 10 ^ (k + 1) → k ≤ 8 → ∀ {h : Heap}, HOK h → CW CC 57 [.int .i64 n] h fun r h' => r = .string (bs (decZ n)) ∧ Fr h h' := by
  induction k using Nat.strongRecOn with
  | _ k ih =>
  intro n hn hk9 h hk
  have hpk : 10 ^ k ≤ 10 ^ 8 := Nat.pow_le_pow_right (by omega) (by omega)
  have hn9 : n.natAbs < 1000000000 := by rw [Nat.pow_succ] at hn; omega
  refine CW_in Tryz.f57 (by kernel_rfl) (by kernel_rfl) rfl rfl ?_
  simp only [Tryz.f57, bs_mk]
  by_cases hneg : n < 0
  · obtain ⟨m, rfl⟩ : ∃ m : Nat, n = -(m : Int) := ⟨n.natAbs, by omega⟩
    have hm : m < 1000000000 := by omega
    have d2 : decide (-(m : Int) < 0) = true := by simp; omega
    by_cases h10 : m < 10
    · have d1 : decide (-(m : Int) > -10) = true := by simp; omega
      have e1 : (48 : Int) - -(m : Int) = ((48 + m : Nat) : Int) := by omega
      have f1 : Fr h (h.alloc (.row [.int .u8 ((48 + m : Nat) : Int)] 1 true)) := (Fr.refl hk).alloc _
      simp (maxDischargeDepth := 30) only [AMS, AMH, ↓reduceIte, Nat.reduceLT, Nat.reduceEqDiff, Nat.reduceAdd, Nat.reduceMul, reduceCtorEq, decide_true, decide_false, Nat.reduceLeDiff, Int.reduceNe, Int.reduceEq, ne_eq, not_false_eq_true, and_self, F57_P2, hk, d1, d2, bs_mk, e1, wrap64 (n := ((48 + m : Nat) : Int)) (by omega) (by omega), cv_3_5 (n := ((48 + m : Nat) : Int)) (by omega) (by omega), cv_b9 (h := h.alloc (.row [.int .u8 ((48 + m : Nat) : Int)] 1 true)) (b := h.next) (rowAt_new _ _ _ _), s_add (a := [45]) (b := [UInt8.ofNat ((48 + m : Nat) : Int).toNat]) (by simp)]
      refine ⟨?_, f1⟩
      unfold decZ
      rw [if_pos hneg]
      unfold dec
      rw [show (- -(m : Int)).toNat = m by omega, digs_one m h10]
      rfl
    · have d1 : decide (-(m : Int) > -10) = false := by simp; omega
      have i10 : (10 : Int) ≠ 0 := by decide
      have q1 : (-(m : Int)).tdiv 10 = -((m / 10 : Nat) : Int) := by rw [Int.neg_tdiv]; rfl
      have q2 : (48 : Int) - (-(m : Int)).tmod 10 = ((48 + m % 10 : Nat) : Int) := by
        rw [Int.neg_tmod]
        have : (m : Int).tmod 10 = ((m % 10 : Nat) : Int) := rfl
        rw [this]; omega
      have f1 : Fr h (h.alloc (.row [.int .u8 ((48 + m % 10 : Nat) : Int)] 1 true)) := (Fr.refl hk).alloc _
      have y1 : (h.alloc (.row [.int .u8 ((48 + m % 10 : Nat) : Int)] 1 true)).get h.next = some (.row [.int .u8 ((48 + m % 10 : Nat) : Int)] 1 true) := get_at _ rfl
      have r1 : rowAt (h.alloc (.row [.int .u8 ((48 + m % 10 : Nat) : Int)] 1 true)) h.next = some [.int .u8 ((48 + m % 10 : Nat) : Int)] := rowAt_new _ _ _ _
      have g1 := wrap64 (n := -((m / 10 : Nat) : Int)) (by omega) (by omega)
      have g2 := wrap64 (n := ((48 + m % 10 : Nat) : Int)) (by omega) (by omega)
      have g3 := fun h => cv_3_5 (n := ((48 + m % 10 : Nat) : Int)) (by omega) (by omega) h
      simp (maxDischargeDepth := 30) only [AMS, AMH, ↓reduceIte, Nat.reduceLT, Nat.reduceEqDiff, Nat.reduceAdd, Nat.reduceMul, reduceCtorEq, decide_true, decide_false, Nat.reduceLeDiff, Int.reduceNe, Int.reduceEq, ne_eq, not_false_eq_true, and_self, F57_P2, hk, d1, d2, bs_mk]
      refine W_draw [(true, 0), (true, 1), (true, 3), (true, 4), (true, 5), (true, 6), (true, 7), (true, 8), (true, 2), (false, 6), (false, 7), (false, 8), (true, 9), (true, 10)] (by kernel_rfl) ?_
      simp (maxDischargeDepth := 30) only [AMS, AMH, ↓reduceIte, Nat.reduceLT, Nat.reduceEqDiff, Nat.reduceAdd, Nat.reduceMul, reduceCtorEq, decide_true, decide_false, Nat.reduceLeDiff, Int.reduceNe, Int.reduceEq, ne_eq, not_false_eq_true, and_self, AMR, F57_P2, hk, I_quo, I_rem, i10, q1, q2, g1, g2, g3, cv_b9 r1]
      generalize (h.alloc (.row [.int .u8 ((48 + m % 10 : Nat) : Int)] 1 true)) = h1 at f1 y1 r1 ⊢
      obtain ⟨j, rfl⟩ : ∃ j, k = j + 1 := ⟨k - 1, by
        rcases Nat.eq_zero_or_pos k with q | q
        · subst q; omega
        · omega⟩
      refine W_callP (ih j (by omega) (-((m / 10 : Nat) : Int)) (by rw [Nat.pow_succ] at hn; omega) (by omega) f1.ok) ?_
      rintro _ h2 ⟨rfl, fr2⟩
      have y2 := fr2.get' f1.ok y1
      have r2 := fr2.row' f1.ok r1
      have dl := decZ_len (-((m / 10 : Nat) : Int))
      simp (maxDischargeDepth := 30) only [AMS, AMH, ↓reduceIte, Nat.reduceLT, Nat.reduceEqDiff, Nat.reduceAdd, Nat.reduceMul, reduceCtorEq, decide_true, decide_false, Nat.reduceLeDiff, Int.reduceNe, Int.reduceEq, ne_eq, not_false_eq_true, and_self, AMR, F57_P2, fr2.ok, I_quo, I_rem, i10, q1, q2, g1, g2, g3, y2, cv_b9 r2, s_add (a := decZ (-((m / 10 : Nat) : Int))) (b := [UInt8.ofNat ((48 + m % 10 : Nat) : Int).toNat]) (by simp only [List.length_cons, List.length_nil]; omega)]
      refine ⟨?_, f1.trans fr2⟩
      unfold decZ
      rw [if_pos hneg, if_pos (by omega)]
      unfold dec
      rw [show (- -(m : Int)).toNat = m by omega, show (- -((m / 10 : Nat) : Int)).toNat = m / 10 by omega, dec_step (by omega) hm]
      try rfl
  · obtain ⟨m, rfl⟩ : ∃ m : Nat, n = (m : Int) := ⟨n.natAbs, by omega⟩
    have hm : m < 1000000000 := by omega
    have d1 : decide ((m : Int) > -10) = true := by simp; omega
    have d2 : decide ((m : Int) < 0) = false := decide_eq_false (by omega)
    by_cases h10 : m < 10
    · have d3 : decide ((m : Int) < 10) = true := by simp; omega
      have e1 : (48 : Int) + (m : Int) = ((48 + m : Nat) : Int) := by omega
      have f1 : Fr h (h.alloc (.row [.int .u8 ((48 + m : Nat) : Int)] 1 true)) := (Fr.refl hk).alloc _
      simp (maxDischargeDepth := 30) only [AMS, AMH, ↓reduceIte, Nat.reduceLT, Nat.reduceEqDiff, Nat.reduceAdd, Nat.reduceMul, reduceCtorEq, decide_true, decide_false, Nat.reduceLeDiff, Int.reduceNe, Int.reduceEq, ne_eq, not_false_eq_true, and_self, F57_P2, hk, d1, d2, d3, e1, wrap64 (n := ((48 + m : Nat) : Int)) (by omega) (by omega), cv_3_5 (n := ((48 + m : Nat) : Int)) (by omega) (by omega), cv_b9 (h := h.alloc (.row [.int .u8 ((48 + m : Nat) : Int)] 1 true)) (b := h.next) (rowAt_new _ _ _ _)]
      refine ⟨?_, f1⟩
      unfold decZ
      rw [if_neg (by omega)]
      unfold dec
      rw [show ((m : Int)).toNat = m by omega, digs_one m h10]
      try rfl
    · have d3 : decide ((m : Int) < 10) = false := by simp; omega
      have i10 : (10 : Int) ≠ 0 := by decide
      have q1 : ((m : Int)).tdiv 10 = ((m / 10 : Nat) : Int) := rfl
      have q2 : (48 : Int) + ((m : Int)).tmod 10 = ((48 + m % 10 : Nat) : Int) := by
        have : (m : Int).tmod 10 = ((m % 10 : Nat) : Int) := rfl
        rw [this]; omega
      have f1 : Fr h (h.alloc (.row [.int .u8 ((48 + m % 10 : Nat) : Int)] 1 true)) := (Fr.refl hk).alloc _
      have y1 : (h.alloc (.row [.int .u8 ((48 + m % 10 : Nat) : Int)] 1 true)).get h.next = some (.row [.int .u8 ((48 + m % 10 : Nat) : Int)] 1 true) := get_at _ rfl
      have r1 : rowAt (h.alloc (.row [.int .u8 ((48 + m % 10 : Nat) : Int)] 1 true)) h.next = some [.int .u8 ((48 + m % 10 : Nat) : Int)] := rowAt_new _ _ _ _
      have g1 := wrap64 (n := ((m / 10 : Nat) : Int)) (by omega) (by omega)
      have g2 := wrap64 (n := ((48 + m % 10 : Nat) : Int)) (by omega) (by omega)
      have g3 := fun h => cv_3_5 (n := ((48 + m % 10 : Nat) : Int)) (by omega) (by omega) h
      simp (maxDischargeDepth := 30) only [AMS, AMH, ↓reduceIte, Nat.reduceLT, Nat.reduceEqDiff, Nat.reduceAdd, Nat.reduceMul, reduceCtorEq, decide_true, decide_false, Nat.reduceLeDiff, Int.reduceNe, Int.reduceEq, ne_eq, not_false_eq_true, and_self, F57_P2, hk, d1, d2, d3]
      refine W_draw [(true, 0), (true, 1), (true, 3), (true, 4), (true, 5), (true, 6), (true, 7), (true, 8), (true, 2), (false, 6), (false, 7), (false, 8), (true, 9), (true, 10)] (by kernel_rfl) ?_
      simp (maxDischargeDepth := 30) only [AMS, AMH, ↓reduceIte, Nat.reduceLT, Nat.reduceEqDiff, Nat.reduceAdd, Nat.reduceMul, reduceCtorEq, decide_true, decide_false, Nat.reduceLeDiff, Int.reduceNe, Int.reduceEq, ne_eq, not_false_eq_true, and_self, AMR, F57_P2, hk, I_quo, I_rem, i10, q1, q2, g1, g2, g3, cv_b9 r1]
      generalize (h.alloc (.row [.int .u8 ((48 + m % 10 : Nat) : Int)] 1 true)) = h1 at f1 y1 r1 ⊢
      obtain ⟨j, rfl⟩ : ∃ j, k = j + 1 := ⟨k - 1, by
        rcases Nat.eq_zero_or_pos k with q | q
        · subst q; omega
        · omega⟩
      refine W_callP (ih j (by omega) ((m / 10 : Nat) : Int) (by rw [Nat.pow_succ] at hn; omega) (by omega) f1.ok) ?_
      rintro _ h2 ⟨rfl, fr2⟩
      have y2 := fr2.get' f1.ok y1
      have r2 := fr2.row' f1.ok r1
      have dl := decZ_len ((m / 10 : Nat) : Int)
      simp (maxDischargeDepth := 30) only [AMS, AMH, ↓reduceIte, Nat.reduceLT, Nat.reduceEqDiff, Nat.reduceAdd, Nat.reduceMul, reduceCtorEq, decide_true, decide_false, Nat.reduceLeDiff, Int.reduceNe, Int.reduceEq, ne_eq, not_false_eq_true, and_self, AMR, F57_P2, fr2.ok, I_quo, I_rem, i10, q1, q2, g1, g2, g3, y2, cv_b9 r2, s_add (a := decZ ((m / 10 : Nat) : Int)) (b := [UInt8.ofNat ((48 + m % 10 : Nat) : Int).toNat]) (by simp only [List.length_cons, List.length_nil]; omega)]
      refine ⟨?_, f1.trans fr2⟩
      unfold decZ
      rw [if_neg (by omega), if_neg (by omega)]
      unfold dec
      rw [show ((m : Int)).toNat = m by omega, show (((m / 10 : Nat) : Int)).toNat = m / 10 by omega, dec_step (by omega) hm]
      try rfl
theorem decimal_pos {n : Int} (hn : okN n) {h : Heap} (hk : HOK h) : CW CC 57 [.int .i64 n] h fun r h' => r = .string (bs (dec n)) ∧ Fr h h' := by
  obtain ⟨r, h', e, rfl, f⟩ := decimal_133 8 n (by have := hn.1; have := hn.2; omega) (Nat.le_refl _) hk
  refine ⟨_, h', e, ?_, f⟩
  unfold decZ
  rw [if_neg (by have := hn.1; omega)]
theorem flat_snoc (l : List Bs) (x : Bs) : (l ++ [x]).flatMap strC = l.flatMap strC ++ [.string (bs x)] := by
  rw [List.flatMap_append]; rfl
theorem take?_one {l : List Value} {p : Nat} {v : Value} (h : l[p]? = some v) : take? l p 1 = some [v] := by
  obtain ⟨hk, e⟩ := List.getElem?_eq_some_iff.1 h
  rw [take?_some (by omega), List.drop_eq_getElem_cons hk, e]; rfl
theorem strs_get {ws : List Bs} {i : Nat} {x : Bs} (h : ws[i]? = some x) : (ws.flatMap strC)[i]? = some (.string (bs x)) := by
  rw [strC_map, List.getElem?_map, h]; rfl
/-- a part of a list of strings -/
theorem LS.sub {h : Heap} {b : Nat} {ws : List Bs} (lo m : Nat) {c : Nat} {sp : Option Nat} (hr : rowAt h b = some (ws.flatMap strC)) (hm : lo + m ≤ ws.length) : LS h (.slice (some ⟨b, lo, sp⟩) m c) ((ws.drop lo).take m) strC 1 := by
  have hl : ((ws.drop lo).take m).length = m := by simp; omega
  refine .inr ⟨b, lo, sp, c, _, by rw [hl], hr, fun i x hx => ?_⟩
  have hi := (List.getElem?_eq_some_iff.1 hx).1
  rw [hl] at hi
  rw [List.getElem?_take_of_lt hi, List.getElem?_drop] at hx
  have hg := strs_get hx
  rw [Nat.mul_one]
  refine ⟨take?_one hg, fun j hj => ?_⟩
  have : j = 0 := by omega
  subst this
  rw [Nat.add_zero, hg]; rfl
theorem natIn_at (lo hi n : Nat) : natIn lo hi (n : Int) = guardB (Nat.ble lo n && Nat.ble n hi) (some n) := rfl
theorem bound_at (hi d : Nat) (k : IntKind) (i : Int) : bound? hi d (some (.int k i)) = natIn 0 hi i := rfl
theorem bound_none (hi d : Nat) : bound? hi d none = some d := rfl
theorem aSlice_sl {C : Ctx} {t e : TypeId} {n : Nat} (hu : C.und t = some (.slice e)) (hs : C.size e = some n) (p : Option Addr) (len cap : Nat) (lo hi : Option Value) : aSlice C t (.slice p len cap) lo hi none = sliceSl n p len cap lo hi := by
  unfold aSlice
  rw [hu]
  show obind (C.size e) _ = _
  rw [hs]; rfl
theorem sliceSl_at (b o n c lo hi : Nat) (h1 : lo ≤ hi) (h2 : hi ≤ c) (h3 : n ≤ c) : sliceSl 1 (some ⟨b + 1, o, some 1⟩) n c (some (.int .i64 lo)) (some (.int .i64 hi)) = some (.slice (some ⟨b + 1, o + lo * 1, some 1⟩) (hi - lo) (c - lo)) := by
  unfold sliceSl
  rw [Nat.ble_eq_true_of_le h3, guardB_true]
  simp only [bound_at, natIn_at, Nat.ble_eq_true_of_le h2, Nat.ble_eq_true_of_le h1, Nat.ble_eq_true_of_le (Nat.zero_le hi), Nat.ble_eq_true_of_le (Nat.zero_le lo), Bool.and_self, guardB_true, obind_some]
  rfl
theorem sliceSl_n (b o n c lo : Nat) (h1 : lo ≤ n) (h3 : n ≤ c) : sliceSl 1 (some ⟨b + 1, o, some 1⟩) n c (some (.int .i64 lo)) none = some (.slice (some ⟨b + 1, o + lo * 1, some 1⟩) (n - lo) (c - lo)) := by
  unfold sliceSl
  rw [Nat.ble_eq_true_of_le h3, guardB_true]
  simp only [bound_none, bound_at, natIn_at, Nat.ble_eq_true_of_le h1, Nat.ble_eq_true_of_le (Nat.zero_le lo), Bool.and_self, guardB_true, obind_some]
  rfl
theorem i_ok {i n : Nat} (h : i < n) (hn : n ≤ 1000000) : IntKind.i64.wrap ((i : Int) + 1) = ((i + 1 : Nat) : Int) := by
  rw [wrap64 (by omega) (by omega)]; rfl
set_option maxRecDepth 10000 in
set_option maxHeartbeats 1000000 in
theorem row_96 {w : Bs} {v : Value} {ns : List Int} {h : Heap} (hk : HOK h) (hv : LS h v ns ints 1) (hn : ∀ n ∈ ns, okN n) (hl : ns.length ≤ 100) (hw : w.length ≤ 100) :
    CW CC 25 [.string (bs w), v] h fun r h' => r = .string (bs (glue 32 (w :: ns.map dec))) ∧ Fr h h' := by
  obtain ⟨p, c, rfl, hx⟩ := hv.open
  refine CW_in Tryz.f25 (by kernel_rfl) (by kernel_rfl) rfl rfl ?_
  simp only [Tryz.f25, bs_mk]
  simp (maxDischargeDepth := 30) only [AMS, AMH, ↓reduceIte, Nat.reduceLT, Nat.reduceEqDiff, Nat.reduceAdd, Nat.reduceMul, reduceCtorEq, decide_true, decide_false, Nat.reduceLeDiff, Int.reduceNe, Int.reduceEq, ne_eq, not_false_eq_true, and_self, F25_P2, hk, bs_mk]
  refine W_loop ns.length (fun m f h' => ∃ i, i ≤ ns.length ∧ m = ns.length - i ∧ f 1 = .slice p ns.length c ∧ f 5 = .int .i64 i ∧ f 0 = .string (bs (w ++ tailB (ns.take i))) ∧ Fr h h')
    ⟨0, by omega, by omega, by simp [upd_at, argsFn_at], by simp [upd_at], by simp [upd_at, argsFn_at, tailB], Fr.refl hk⟩ ?_
  rintro m f h1 ⟨i, hi, rfl, g1, g5, g0, f1⟩ ih
  have k1 := f1.ok
  by_cases hil : i < ns.length
  · obtain ⟨n, gn⟩ : ∃ n, ns[i]? = some n := ⟨_, List.getElem?_eq_getElem hil⟩
    rcases hx with hx | ⟨b, o, sp, row, rfl, hr, hx⟩
    · rw [hx] at hil; simp at hil
    have hcell : row[o + i]? = some (.int .i64 n) := by
      have := (hx _ _ gn).2 0 (by omega)
      simpa [ints] using this
    have on := hn n (List.mem_of_getElem? gn)
    have a1 := (dec_num on).2.2.1
    have a2 := tail_len (ns := ns.take i) fun x hx => hn x (take_mem hx)
    have a3 : (ns.take i).length ≤ 100 := by simp; omega
    have hr1 := f1.row' hk hr
    simp (maxDischargeDepth := 30) only [AMS, AMH, ↓reduceIte, Nat.reduceLT, Nat.reduceEqDiff, Nat.reduceAdd, Nat.reduceMul, reduceCtorEq, decide_true, decide_false, Nat.reduceLeDiff, Int.reduceNe, Int.reduceEq, ne_eq, not_false_eq_true, and_self, F25_P2, k1, g1, g5, g0, lt_t hil, hil, Nat.mul_one, hr1, hcell, bs_mk, s_add (a := w ++ tailB (ns.take i)) (b := [32]) (by simp only [List.length_append, List.length_cons, List.length_nil]; omega)]
    refine W_call (decimal_pos on k1) ?_
    rintro _ h2 ⟨rfl, fr2⟩
    have e : (w ++ tailB (ns.take i) ++ [32]) ++ dec n = w ++ tailB (ns.take (i + 1)) := by rw [tail_snoc gn]; simp
    simp (maxDischargeDepth := 30) only [AMS, AMH, ↓reduceIte, Nat.reduceLT, Nat.reduceEqDiff, Nat.reduceAdd, Nat.reduceMul, reduceCtorEq, decide_true, decide_false, Nat.reduceLeDiff, Int.reduceNe, Int.reduceEq, ne_eq, not_false_eq_true, and_self, F25_P2, fr2.ok, g1, g5, bs_mk, s_add (a := w ++ tailB (ns.take i) ++ [32]) (b := dec n) (by simp only [List.length_append, List.length_cons, List.length_nil]; omega), e, i_ok hil (by omega)]
    refine ih (ns.length - (i + 1)) _ _ (by omega) ?_
    exact ⟨i + 1, by omega, rfl, by simp [upd_at, g1], by simp [upd_at], by simp [upd_at], f1.trans fr2⟩
  · have : i = ns.length := by omega
    subst this
    simp (maxDischargeDepth := 30) only [AMS, AMH, ↓reduceIte, Nat.reduceLT, Nat.reduceEqDiff, Nat.reduceAdd, Nat.reduceMul, reduceCtorEq, decide_true, decide_false, Nat.reduceLeDiff, Int.reduceNe, Int.reduceEq, ne_eq, not_false_eq_true, and_self, F25_P2, k1, g1, g5, g0, lt_f]
    rw [List.take_length, glue_tail]
    exact ⟨rfl, f1⟩
theorem sl_9 {l : Bs} {lo hi : Nat} (h1 : lo ≤ hi) (h2 : hi ≤ l.length) : aSlice CC 9 (.string (bs l)) (some (.int .i64 lo)) (some (.int .i64 hi)) none = some (.string (bs ((l.drop lo).take (hi - lo)))) := by
  unfold aSlice
  rw [und_9]
  show sliceStr l (some (.int .i64 lo)) (some (.int .i64 hi)) = _
  unfold sliceStr
  simp only [bound_at, natIn_at, Nat.ble_eq_true_of_le h2, Nat.ble_eq_true_of_le h1, Nat.ble_eq_true_of_le (Nat.zero_le hi), Nat.ble_eq_true_of_le (Nat.zero_le lo), Bool.and_self, guardB_true, obind_some]
  rfl
theorem sl_9n {l : Bs} {lo : Nat} (h1 : lo ≤ l.length) : aSlice CC 9 (.string (bs l)) (some (.int .i64 lo)) none none = some (.string (bs (l.drop lo))) := by
  have e : aSlice CC 9 (.string (bs l)) (some (.int .i64 lo)) none none = some (.string (bs ((l.drop lo).take (l.length - lo)))) := by
    unfold aSlice
    rw [und_9]
    show sliceStr l (some (.int .i64 lo)) none = _
    unfold sliceStr
    simp only [bound_at, bound_none, natIn_at, Nat.ble_eq_true_of_le h1, Nat.ble_eq_true_of_le (Nat.zero_le lo), Bool.and_self, guardB_true, obind_some]
    rfl
  rw [e, List.take_of_length_le (by simp)]
set_option maxRecDepth 10000 in
set_option maxHeartbeats 1000000 in
theorem split_101 {s : Bs} {c : UInt8} {h : Heap} (hk : HOK h) (hp : 0 < h.next) (hl : s.length ≤ 100000) : CW CC 28 [.string (bs s), .int .u8 c.toNat] h fun r h' => SL h.next h' r ((cutAt c s).flatMap strC) 1 (cutAt c s).length ∧ Fr h h' := by
  refine CW_in Tryz.f28 (by kernel_rfl) (by kernel_rfl) rfl rfl ?_
  simp only [Tryz.f28, bs_mk]
  simp (maxDischargeDepth := 30) only [AMS, AMH, ↓reduceIte, Nat.reduceLT, Nat.reduceEqDiff, Nat.reduceAdd, Nat.reduceMul, reduceCtorEq, decide_true, decide_false, Nat.reduceLeDiff, Int.reduceNe, Int.reduceEq, ne_eq, not_false_eq_true, and_self, F28_P2, hk, bs_mk]
  refine W_loop s.length (fun m f h' => ∃ i fr out, i ≤ s.length ∧ m = s.length - i ∧ fr ≤ i ∧ f 0 = .string (bs s) ∧ f 1 = .int .u8 c.toNat ∧ f 6 = .int .i64 fr ∧ f 7 = .int .i64 i ∧ cutAt c s = out ++ cutAt c (s.drop fr) ∧ out.length ≤ i ∧
      (∀ (j : Nat) b, fr ≤ j → j < i → s[j]? = some b → b ≠ c) ∧ SL h.next h' (f 5) (out.flatMap strC) 1 out.length ∧ Fr h h')
    ⟨0, 0, [], by omega, by omega, by omega, by simp [upd_at, argsFn_at], by simp [upd_at, argsFn_at], by simp [upd_at], by simp [upd_at], by simp, by simp, fun j b h1 h2 => by omega, by simpa [upd_at] using SL.nil h.next h 1, Fr.refl hk⟩ ?_
  rintro m f h1 ⟨i, fr, out, hi, rfl, hfr, g0, g1, g6, g7, hcut, hout, hn, q5, f1⟩ ih
  have k1 := f1.ok
  by_cases hil : i < s.length
  · obtain ⟨b, gb⟩ : ∃ b, s[i]? = some b := ⟨_, List.getElem?_eq_getElem hil⟩
    have dl : decide ((i : Int) < ((bs s).data.toList.length : Nat)) = true := lt_t hil
    by_cases hbc : b = c
    · subst hbc
      have d1 : decide (b = b) = true := by simp
      obtain ⟨h2, e2, q2, f2, n2, _⟩ := append_one (ts := []) app_87 f1 (by have := f1.next; omega) q5 (v := .string (bs ((s.drop fr).take (i - fr)))) rfl (by omega)
      simp (maxDischargeDepth := 30) only [AMS, AMH, ↓reduceIte, Nat.reduceLT, Nat.reduceEqDiff, Nat.reduceAdd, Nat.reduceMul, reduceCtorEq, decide_true, decide_false, Nat.reduceLeDiff, Int.reduceNe, Int.reduceEq, ne_eq, not_false_eq_true, and_self, F28_P2, k1, g0, g1, g6, g7, dl, i_9 gb, u8_eq, d1, sl_9 hfr hi, Option.map_some, Option.map_none, e2, f2.ok, i_ok hil (by omega)]
      refine ih (s.length - (i + 1)) _ _ (by omega) ?_
      refine ⟨i + 1, i + 1, out ++ [(s.drop fr).take (i - fr)], by omega, rfl, by omega, by simp [upd_at, g0], by simp [upd_at, g1], by simp [upd_at], by simp [upd_at], ?_, by simp; omega, fun j x h1 h2 => by omega, ?_, f2⟩
      · rw [hcut, cut_part hfr gb hn]; simp
      · rw [flat_snoc]; simpa [upd_at] using q2
    · have d1 : decide (b = c) = false := by simp [hbc]
      simp (maxDischargeDepth := 30) only [AMS, AMH, ↓reduceIte, Nat.reduceLT, Nat.reduceEqDiff, Nat.reduceAdd, Nat.reduceMul, reduceCtorEq, decide_true, decide_false, Nat.reduceLeDiff, Int.reduceNe, Int.reduceEq, ne_eq, not_false_eq_true, and_self, F28_P2, k1, g0, g1, g6, g7, dl, i_9 gb, u8_eq, d1, i_ok hil (by omega)]
      refine ih (s.length - (i + 1)) _ _ (by omega) ?_
      refine ⟨i + 1, fr, out, by omega, rfl, by omega, by simp [upd_at, g0], by simp [upd_at, g1], by simp [upd_at, g6], by simp [upd_at], hcut, by omega, fun j x h1 h2 hx => ?_, by simpa [upd_at] using q5, f1⟩
      rcases Nat.lt_or_ge j i with q | q
      · exact hn j x h1 q hx
      · have : j = i := by omega
        subst this
        rw [gb] at hx; simp at hx; subst hx; exact hbc
  · have : i = s.length := by omega
    subst this
    have dl : decide ((s.length : Int) < ((bs s).data.toList.length : Nat)) = false := lt_f _
    have hr := cut_rest (c := c) (s := s) (fr := fr) fun j b h1 hb => hn j b h1 (List.getElem?_eq_some_iff.1 hb).1 hb
    obtain ⟨h2, e2, q2, f2, n2, _⟩ := append_one (ts := []) app_87 f1 (by have := f1.next; omega) q5 (v := .string (bs (s.drop fr))) rfl (by omega)
    simp (maxDischargeDepth := 30) only [AMS, AMH, ↓reduceIte, Nat.reduceLT, Nat.reduceEqDiff, Nat.reduceAdd, Nat.reduceMul, reduceCtorEq, decide_true, decide_false, Nat.reduceLeDiff, Int.reduceNe, Int.reduceEq, ne_eq, not_false_eq_true, and_self, F28_P2, k1, g0, g1, g6, g7, dl, sl_9n hfr, Option.map_some, Option.map_none, e2, f2.ok]
    rw [hcut, hr, flat_snoc, List.length_append]
    exact ⟨q2, f2⟩
set_option maxRecDepth 10000 in
set_option maxHeartbeats 2000000 in
theorem number_150 {w : Bs} {h : Heap} (hk : HOK h) (hw : w.length ≤ 100000) : CW CC 99 [.string (bs w), .int .i64 4] h fun r h' => (∃ n b, r = .tuple ⟨[.int .i64 n, .bool b]⟩ ∧ numZ w = if b = true then some n else none) ∧ Fr h h' := by
  refine CW_in Tryz.f99 (by kernel_rfl) (by kernel_rfl) rfl rfl ?_
  simp only [Tryz.f99, bs_mk]
  by_cases hb : ∃ r, w = 45 :: r
  · obtain ⟨r, rfl⟩ := hb
    have hw' : r.length ≤ 100000 := by simp at hw; omega
    have c0 : decide (((bs (45 :: r)).data.toList.length : Nat) > (0 : Int)) = true := by show decide (((45 :: r).length : Int) > 0) = true; exact decide_eq_true (by simp only [List.length_cons]; omega)
    have c1 : aIndex CC 9 (.string (bs (45 :: r))) (.int .i64 0) = some (.int .u8 45) := i_9 (l := 45 :: r) (k := 0) (b := 45) rfl
    have c2 : ((45 : Int) == 45) = true := rfl
    have c3 : aSlice CC 9 (.string (bs (45 :: r))) (some (.int .i64 1)) none none = some (.string (bs r)) := sl_9n (l := 45 :: r) (lo := 1) (by simp)
    simp (maxDischargeDepth := 30) only [AMS, AMH, ↓reduceIte, Nat.reduceLT, Nat.reduceEqDiff, Nat.reduceAdd, Nat.reduceMul, reduceCtorEq, decide_true, decide_false, Nat.reduceLeDiff, Int.reduceNe, Int.reduceEq, ne_eq, not_false_eq_true, and_self, F99_P2, hk, c0, c1, c2, Option.map_some, Option.map_none]
    refine W_draw [(true, 0), (true, 1), (true, 2), (true, 3)] (by kernel_rfl) ?_
    have es : signB (45 :: r) = ((-1), r) := by show (if (45 : UInt8) = 45 then ((-1 : Int), r) else (1, 45 :: r)) = _; rw [if_pos rfl]
    by_cases hlen : 1 ≤ (r).length ∧ (r).length ≤ 4
    rotate_left
    · have hz := numZ_len (w := (45 :: r)) (by rw [es]; exact hlen)
      by_cases h1 : (r).length < 1
      · have d1 : decide (((bs r).data.toList.length : Nat) < (1 : Int)) = true := by show decide (((r).length : Int) < 1) = true; exact decide_eq_true (by omega)
        simp (maxDischargeDepth := 30) only [AMS, AMH, ↓reduceIte, Nat.reduceLT, Nat.reduceEqDiff, Nat.reduceAdd, Nat.reduceMul, reduceCtorEq, decide_true, decide_false, Nat.reduceLeDiff, Int.reduceNe, Int.reduceEq, ne_eq, not_false_eq_true, and_self, AMR, F99_P2, hk, c0, c1, c2, c3, Option.map_some, Option.map_none, d1]
        exact ⟨⟨0, false, by first | rfl | trivial, by rw [hz]; rfl⟩, Fr.refl hk⟩
      · have d1 : decide (((bs r).data.toList.length : Nat) < (1 : Int)) = false := by show decide (((r).length : Int) < 1) = false; exact decide_eq_false (by omega)
        have d2 : decide (((bs r).data.toList.length : Nat) > (4 : Int)) = true := by show decide (((r).length : Int) > 4) = true; exact decide_eq_true (by omega)
        simp (maxDischargeDepth := 30) only [AMS, AMH, ↓reduceIte, Nat.reduceLT, Nat.reduceEqDiff, Nat.reduceAdd, Nat.reduceMul, reduceCtorEq, decide_true, decide_false, Nat.reduceLeDiff, Int.reduceNe, Int.reduceEq, ne_eq, not_false_eq_true, and_self, AMR, F99_P2, hk, c0, c1, c2, c3, Option.map_some, Option.map_none, d1, d2]
        exact ⟨⟨0, false, by first | rfl | trivial, by rw [hz]; rfl⟩, Fr.refl hk⟩
    have d1 : decide (((bs r).data.toList.length : Nat) < (1 : Int)) = false := by show decide (((r).length : Int) < 1) = false; exact decide_eq_false (by omega)
    have d2 : decide (((bs r).data.toList.length : Nat) > (4 : Int)) = false := by show decide (((r).length : Int) > 4) = false; exact decide_eq_false (by omega)
    simp (maxDischargeDepth := 30) only [AMS, AMH, ↓reduceIte, Nat.reduceLT, Nat.reduceEqDiff, Nat.reduceAdd, Nat.reduceMul, reduceCtorEq, decide_true, decide_false, Nat.reduceLeDiff, Int.reduceNe, Int.reduceEq, ne_eq, not_false_eq_true, and_self, AMR, F99_P2, hk, c0, c1, c2, c3, Option.map_some, Option.map_none, d1, d2]
    refine W_loop (r).length (fun m f h' => ∃ i, i ≤ (r).length ∧ m = (r).length - i ∧ f 0 = .string (bs (45 :: r)) ∧ f 6 = .int .i64 (-1) ∧ f 7 = .string (bs r) ∧ f 9 = .int .i64 i ∧ f 8 = .int .i64 (valB ((r).take i)) ∧ ((r).take i).all isDig = true ∧ h' = h)
      ⟨0, by omega, by omega, by simp [upd_at, argsFn_at], by simp [upd_at], by simp [upd_at], by simp [upd_at], by simp [upd_at, valB], by simp, rfl⟩ ?_
    clear d1 d2
    rintro m f h1 ⟨i, hi, rfl, g0, g6, g7, g9, g8, hd, rfl⟩ ih
    have hsm := val_small hd (fun _ => hlen.2)
    by_cases hil : i < (r).length
    · obtain ⟨y, gy⟩ : ∃ y, (r)[i]? = some y := ⟨_, List.getElem?_eq_getElem hil⟩
      have dl : decide ((i : Int) < ((bs r).data.toList.length : Nat)) = true := lt_t hil
      have hy8 := y.toNat_lt
      cases hy : isDig y with
      | false =>
        have hz := numZ_dig (w := (45 :: r)) (k := i) (b := y) (by rw [es]; exact gy) hy
        rcases not_dig hy with q | q
        · have d1 : decide ((y.toNat : Int) < 48) = true := decide_eq_true (by omega)
          simp (maxDischargeDepth := 30) only [AMS, AMH, ↓reduceIte, Nat.reduceLT, Nat.reduceEqDiff, Nat.reduceAdd, Nat.reduceMul, reduceCtorEq, decide_true, decide_false, Nat.reduceLeDiff, Int.reduceNe, Int.reduceEq, ne_eq, not_false_eq_true, and_self, F99_P2, hk, g0, g6, g7, g9, g8, dl, i_9 gy, d1]
          exact ⟨⟨0, false, by first | rfl | trivial, by rw [hz]; rfl⟩, Fr.refl hk⟩
        · have d1 : decide ((y.toNat : Int) < 48) = false := decide_eq_false (by omega)
          have d2 : decide ((y.toNat : Int) > 57) = true := decide_eq_true (by omega)
          simp (maxDischargeDepth := 30) only [AMS, AMH, ↓reduceIte, Nat.reduceLT, Nat.reduceEqDiff, Nat.reduceAdd, Nat.reduceMul, reduceCtorEq, decide_true, decide_false, Nat.reduceLeDiff, Int.reduceNe, Int.reduceEq, ne_eq, not_false_eq_true, and_self, F99_P2, hk, g0, g6, g7, g9, g8, dl, i_9 gy, d1, d2]
          exact ⟨⟨0, false, by first | rfl | trivial, by rw [hz]; rfl⟩, Fr.refl hk⟩
      | true =>
        have hyr := dig_le hy
        have d1 : decide ((y.toNat : Int) < 48) = false := decide_eq_false (by omega)
        have d2 : decide ((y.toNat : Int) > 57) = false := decide_eq_false (by omega)
        have ev := val_snoc gy
        have ev' : 10 * (valB ((r).take i) : Int) + ((y.toNat : Int) - 48) = (valB ((r).take (i + 1)) : Int) := by rw [ev]; omega
        have hd' := dig_snoc gy hy hd
        simp (maxDischargeDepth := 30) only [AMS, AMH, ↓reduceIte, Nat.reduceLT, Nat.reduceEqDiff, Nat.reduceAdd, Nat.reduceMul, reduceCtorEq, decide_true, decide_false, Nat.reduceLeDiff, Int.reduceNe, Int.reduceEq, ne_eq, not_false_eq_true, and_self, F99_P2, hk, g0, g6, g7, g9, g8, dl, i_9 gy, d1, d2, cv_5_3, wrap64 (n := 10 * (valB ((r).take i) : Int)) (by omega) (by omega), wrap8 (n := (y.toNat : Int) - 48) (by omega) (by omega), wrap64 (n := (y.toNat : Int) - 48) (by omega) (by omega), ev', wrap64 (n := (valB ((r).take (i + 1)) : Int)) (by omega) (by omega), i_ok hil (by omega)]
        refine ih ((r).length - (i + 1)) _ _ (by omega) ?_
        exact ⟨i + 1, by omega, rfl, by simp [upd_at, g0], by simp [upd_at, g6], by simp [upd_at, g7], by simp [upd_at], by simp [upd_at], hd', rfl⟩
    have : i = (r).length := by omega
    subst this
    rw [List.take_length] at hd hsm g8
    have dl : decide ((((r).length : Nat) : Int) < ((bs r).data.toList.length : Nat)) = false := lt_f _
    have hz := numZ_is (w := (45 :: r)) (by rw [es]; exact hd) (by rw [es]; exact hlen.1) (by rw [es]; exact hlen.2)
    rw [es] at hz
    simp only at hz
    have hw1 := wrap64 (n := (-1) * (valB (r) : Int)) (by omega) (by omega)
    simp (maxDischargeDepth := 30) only [AMS, AMH, ↓reduceIte, Nat.reduceLT, Nat.reduceEqDiff, Nat.reduceAdd, Nat.reduceMul, reduceCtorEq, decide_true, decide_false, Nat.reduceLeDiff, Int.reduceNe, Int.reduceEq, ne_eq, not_false_eq_true, and_self, F99_P2, hk, g0, g6, g7, g9, g8, dl, hw1]
    refine W_call (decimal_133 8 ((-1) * (valB (r) : Int)) (by omega) (Nat.le_refl _) hk) ?_
    rintro _ h2 ⟨rfl, fr2⟩
    simp (maxDischargeDepth := 30) only [AMS, AMH, ↓reduceIte, Nat.reduceLT, Nat.reduceEqDiff, Nat.reduceAdd, Nat.reduceMul, reduceCtorEq, decide_true, decide_false, Nat.reduceLeDiff, Int.reduceNe, Int.reduceEq, ne_eq, not_false_eq_true, and_self, F99_P2, fr2.ok, g0, s_eq]
    exact ⟨⟨_, _, rfl, hz⟩, fr2⟩
  have c0 : ∃ x : Bool, x = false ∧ ((decide (((bs w).data.toList.length : Nat) > (0 : Int)) = false) ∨ (decide (((bs w).data.toList.length : Nat) > (0 : Int)) = true ∧ ∃ b r, w = b :: r ∧ b ≠ 45)) := by
    refine ⟨false, rfl, ?_⟩
    cases w with
    | nil => exact .inl rfl
    | cons b r =>
      refine .inr ⟨?_, b, r, rfl, fun e => hb ⟨r, by rw [e]⟩⟩
      show decide (((b :: r).length : Int) > 0) = true
      exact decide_eq_true (by simp only [List.length_cons]; omega)
  obtain ⟨_, _, c0⟩ := c0
  have es0 : signB w = (1, w) := by
    cases w with
    | nil => rfl
    | cons b r =>
      show (if b = 45 then ((-1 : Int), r) else (1, b :: r)) = _
      rw [if_neg fun e => hb ⟨r, by rw [e]⟩]
  rcases c0 with c0 | ⟨c0, b, r, hwb, hb45⟩
  · have es : signB w = (1, w) := es0
    by_cases hlen : 1 ≤ (w).length ∧ (w).length ≤ 4
    rotate_left
    · have hz := numZ_len (w := w) (by rw [es]; exact hlen)
      by_cases h1 : (w).length < 1
      · have d1 : decide (((bs w).data.toList.length : Nat) < (1 : Int)) = true := by show decide (((w).length : Int) < 1) = true; exact decide_eq_true (by omega)
        simp (maxDischargeDepth := 30) only [AMS, AMH, ↓reduceIte, Nat.reduceLT, Nat.reduceEqDiff, Nat.reduceAdd, Nat.reduceMul, reduceCtorEq, decide_true, decide_false, Nat.reduceLeDiff, Int.reduceNe, Int.reduceEq, ne_eq, not_false_eq_true, and_self, F99_P2, hk, c0, d1]
        exact ⟨⟨0, false, by first | rfl | trivial, by rw [hz]; rfl⟩, Fr.refl hk⟩
      · have d1 : decide (((bs w).data.toList.length : Nat) < (1 : Int)) = false := by show decide (((w).length : Int) < 1) = false; exact decide_eq_false (by omega)
        have d2 : decide (((bs w).data.toList.length : Nat) > (4 : Int)) = true := by show decide (((w).length : Int) > 4) = true; exact decide_eq_true (by omega)
        simp (maxDischargeDepth := 30) only [AMS, AMH, ↓reduceIte, Nat.reduceLT, Nat.reduceEqDiff, Nat.reduceAdd, Nat.reduceMul, reduceCtorEq, decide_true, decide_false, Nat.reduceLeDiff, Int.reduceNe, Int.reduceEq, ne_eq, not_false_eq_true, and_self, F99_P2, hk, c0, d1, d2]
        exact ⟨⟨0, false, by first | rfl | trivial, by rw [hz]; rfl⟩, Fr.refl hk⟩
    have d1 : decide (((bs w).data.toList.length : Nat) < (1 : Int)) = false := by show decide (((w).length : Int) < 1) = false; exact decide_eq_false (by omega)
    have d2 : decide (((bs w).data.toList.length : Nat) > (4 : Int)) = false := by show decide (((w).length : Int) > 4) = false; exact decide_eq_false (by omega)
    simp (maxDischargeDepth := 30) only [AMS, AMH, ↓reduceIte, Nat.reduceLT, Nat.reduceEqDiff, Nat.reduceAdd, Nat.reduceMul, reduceCtorEq, decide_true, decide_false, Nat.reduceLeDiff, Int.reduceNe, Int.reduceEq, ne_eq, not_false_eq_true, and_self, F99_P2, hk, c0, d1, d2]
    refine W_loop (w).length (fun m f h' => ∃ i, i ≤ (w).length ∧ m = (w).length - i ∧ f 0 = .string (bs w) ∧ f 6 = .int .i64 1 ∧ f 7 = .string (bs w) ∧ f 9 = .int .i64 i ∧ f 8 = .int .i64 (valB ((w).take i)) ∧ ((w).take i).all isDig = true ∧ h' = h)
      ⟨0, by omega, by omega, by simp [upd_at, argsFn_at], by simp [upd_at], by simp [upd_at], by simp [upd_at], by simp [upd_at, valB], by simp, rfl⟩ ?_
    clear d1 d2
    rintro m f h1 ⟨i, hi, rfl, g0, g6, g7, g9, g8, hd, rfl⟩ ih
    have hsm := val_small hd (fun _ => hlen.2)
    by_cases hil : i < (w).length
    · obtain ⟨y, gy⟩ : ∃ y, (w)[i]? = some y := ⟨_, List.getElem?_eq_getElem hil⟩
      have dl : decide ((i : Int) < ((bs w).data.toList.length : Nat)) = true := lt_t hil
      have hy8 := y.toNat_lt
      cases hy : isDig y with
      | false =>
        have hz := numZ_dig (w := w) (k := i) (b := y) (by rw [es]; exact gy) hy
        rcases not_dig hy with q | q
        · have d1 : decide ((y.toNat : Int) < 48) = true := decide_eq_true (by omega)
          simp (maxDischargeDepth := 30) only [AMS, AMH, ↓reduceIte, Nat.reduceLT, Nat.reduceEqDiff, Nat.reduceAdd, Nat.reduceMul, reduceCtorEq, decide_true, decide_false, Nat.reduceLeDiff, Int.reduceNe, Int.reduceEq, ne_eq, not_false_eq_true, and_self, F99_P2, hk, g0, g6, g7, g9, g8, dl, i_9 gy, d1]
          exact ⟨⟨0, false, by first | rfl | trivial, by rw [hz]; rfl⟩, Fr.refl hk⟩
        · have d1 : decide ((y.toNat : Int) < 48) = false := decide_eq_false (by omega)
          have d2 : decide ((y.toNat : Int) > 57) = true := decide_eq_true (by omega)
          simp (maxDischargeDepth := 30) only [AMS, AMH, ↓reduceIte, Nat.reduceLT, Nat.reduceEqDiff, Nat.reduceAdd, Nat.reduceMul, reduceCtorEq, decide_true, decide_false, Nat.reduceLeDiff, Int.reduceNe, Int.reduceEq, ne_eq, not_false_eq_true, and_self, F99_P2, hk, g0, g6, g7, g9, g8, dl, i_9 gy, d1, d2]
          exact ⟨⟨0, false, by first | rfl | trivial, by rw [hz]; rfl⟩, Fr.refl hk⟩
      | true =>
        have hyr := dig_le hy
        have d1 : decide ((y.toNat : Int) < 48) = false := decide_eq_false (by omega)
        have d2 : decide ((y.toNat : Int) > 57) = false := decide_eq_false (by omega)
        have ev := val_snoc gy
        have ev' : 10 * (valB ((w).take i) : Int) + ((y.toNat : Int) - 48) = (valB ((w).take (i + 1)) : Int) := by rw [ev]; omega
        have hd' := dig_snoc gy hy hd
        simp (maxDischargeDepth := 30) only [AMS, AMH, ↓reduceIte, Nat.reduceLT, Nat.reduceEqDiff, Nat.reduceAdd, Nat.reduceMul, reduceCtorEq, decide_true, decide_false, Nat.reduceLeDiff, Int.reduceNe, Int.reduceEq, ne_eq, not_false_eq_true, and_self, F99_P2, hk, g0, g6, g7, g9, g8, dl, i_9 gy, d1, d2, cv_5_3, wrap64 (n := 10 * (valB ((w).take i) : Int)) (by omega) (by omega), wrap8 (n := (y.toNat : Int) - 48) (by omega) (by omega), wrap64 (n := (y.toNat : Int) - 48) (by omega) (by omega), ev', wrap64 (n := (valB ((w).take (i + 1)) : Int)) (by omega) (by omega), i_ok hil (by omega)]
        refine ih ((w).length - (i + 1)) _ _ (by omega) ?_
        exact ⟨i + 1, by omega, rfl, by simp [upd_at, g0], by simp [upd_at, g6], by simp [upd_at, g7], by simp [upd_at], by simp [upd_at], hd', rfl⟩
    have : i = (w).length := by omega
    subst this
    rw [List.take_length] at hd hsm g8
    have dl : decide ((((w).length : Nat) : Int) < ((bs w).data.toList.length : Nat)) = false := lt_f _
    have hz := numZ_is (w := w) (by rw [es]; exact hd) (by rw [es]; exact hlen.1) (by rw [es]; exact hlen.2)
    rw [es] at hz
    simp only at hz
    have hw1 := wrap64 (n := 1 * (valB (w) : Int)) (by omega) (by omega)
    simp (maxDischargeDepth := 30) only [AMS, AMH, ↓reduceIte, Nat.reduceLT, Nat.reduceEqDiff, Nat.reduceAdd, Nat.reduceMul, reduceCtorEq, decide_true, decide_false, Nat.reduceLeDiff, Int.reduceNe, Int.reduceEq, ne_eq, not_false_eq_true, and_self, F99_P2, hk, g0, g6, g7, g9, g8, dl, hw1]
    refine W_call (decimal_133 8 (1 * (valB (w) : Int)) (by omega) (Nat.le_refl _) hk) ?_
    rintro _ h2 ⟨rfl, fr2⟩
    simp (maxDischargeDepth := 30) only [AMS, AMH, ↓reduceIte, Nat.reduceLT, Nat.reduceEqDiff, Nat.reduceAdd, Nat.reduceMul, reduceCtorEq, decide_true, decide_false, Nat.reduceLeDiff, Int.reduceNe, Int.reduceEq, ne_eq, not_false_eq_true, and_self, F99_P2, fr2.ok, g0, s_eq]
    exact ⟨⟨_, _, rfl, hz⟩, fr2⟩
  · have c1 : aIndex CC 9 (.string (bs w)) (.int .i64 0) = some (.int .u8 b.toNat) := i_9 (l := w) (k := 0) (b := b) (by rw [hwb]; rfl)
    have c2 : ((b.toNat : Int) == 45) = false := by
      have : (45 : UInt8).toNat = 45 := rfl
      rw [Bool.eq_false_iff]
      intro e
      have e := beq_iff_eq.1 e
      exact hb45 (UInt8.toNat_inj.1 (by omega))
    clear hwb
    have es : signB w = (1, w) := es0
    by_cases hlen : 1 ≤ (w).length ∧ (w).length ≤ 4
    rotate_left
    · have hz := numZ_len (w := w) (by rw [es]; exact hlen)
      by_cases h1 : (w).length < 1
      · have d1 : decide (((bs w).data.toList.length : Nat) < (1 : Int)) = true := by show decide (((w).length : Int) < 1) = true; exact decide_eq_true (by omega)
        simp (maxDischargeDepth := 30) only [AMS, AMH, ↓reduceIte, Nat.reduceLT, Nat.reduceEqDiff, Nat.reduceAdd, Nat.reduceMul, reduceCtorEq, decide_true, decide_false, Nat.reduceLeDiff, Int.reduceNe, Int.reduceEq, ne_eq, not_false_eq_true, and_self, F99_P2, hk, c0, c1, c2, d1]
        exact ⟨⟨0, false, by first | rfl | trivial, by rw [hz]; rfl⟩, Fr.refl hk⟩
      · have d1 : decide (((bs w).data.toList.length : Nat) < (1 : Int)) = false := by show decide (((w).length : Int) < 1) = false; exact decide_eq_false (by omega)
        have d2 : decide (((bs w).data.toList.length : Nat) > (4 : Int)) = true := by show decide (((w).length : Int) > 4) = true; exact decide_eq_true (by omega)
        simp (maxDischargeDepth := 30) only [AMS, AMH, ↓reduceIte, Nat.reduceLT, Nat.reduceEqDiff, Nat.reduceAdd, Nat.reduceMul, reduceCtorEq, decide_true, decide_false, Nat.reduceLeDiff, Int.reduceNe, Int.reduceEq, ne_eq, not_false_eq_true, and_self, F99_P2, hk, c0, c1, c2, d1, d2]
        exact ⟨⟨0, false, by first | rfl | trivial, by rw [hz]; rfl⟩, Fr.refl hk⟩
    have d1 : decide (((bs w).data.toList.length : Nat) < (1 : Int)) = false := by show decide (((w).length : Int) < 1) = false; exact decide_eq_false (by omega)
    have d2 : decide (((bs w).data.toList.length : Nat) > (4 : Int)) = false := by show decide (((w).length : Int) > 4) = false; exact decide_eq_false (by omega)
    simp (maxDischargeDepth := 30) only [AMS, AMH, ↓reduceIte, Nat.reduceLT, Nat.reduceEqDiff, Nat.reduceAdd, Nat.reduceMul, reduceCtorEq, decide_true, decide_false, Nat.reduceLeDiff, Int.reduceNe, Int.reduceEq, ne_eq, not_false_eq_true, and_self, F99_P2, hk, c0, c1, c2, d1, d2]
    refine W_loop (w).length (fun m f h' => ∃ i, i ≤ (w).length ∧ m = (w).length - i ∧ f 0 = .string (bs w) ∧ f 6 = .int .i64 1 ∧ f 7 = .string (bs w) ∧ f 9 = .int .i64 i ∧ f 8 = .int .i64 (valB ((w).take i)) ∧ ((w).take i).all isDig = true ∧ h' = h)
      ⟨0, by omega, by omega, by simp [upd_at, argsFn_at], by simp [upd_at], by simp [upd_at], by simp [upd_at], by simp [upd_at, valB], by simp, rfl⟩ ?_
    clear d1 d2
    rintro m f h1 ⟨i, hi, rfl, g0, g6, g7, g9, g8, hd, rfl⟩ ih
    have hsm := val_small hd (fun _ => hlen.2)
    by_cases hil : i < (w).length
    · obtain ⟨y, gy⟩ : ∃ y, (w)[i]? = some y := ⟨_, List.getElem?_eq_getElem hil⟩
      have dl : decide ((i : Int) < ((bs w).data.toList.length : Nat)) = true := lt_t hil
      have hy8 := y.toNat_lt
      cases hy : isDig y with
      | false =>
        have hz := numZ_dig (w := w) (k := i) (b := y) (by rw [es]; exact gy) hy
        rcases not_dig hy with q | q
        · have d1 : decide ((y.toNat : Int) < 48) = true := decide_eq_true (by omega)
          simp (maxDischargeDepth := 30) only [AMS, AMH, ↓reduceIte, Nat.reduceLT, Nat.reduceEqDiff, Nat.reduceAdd, Nat.reduceMul, reduceCtorEq, decide_true, decide_false, Nat.reduceLeDiff, Int.reduceNe, Int.reduceEq, ne_eq, not_false_eq_true, and_self, F99_P2, hk, g0, g6, g7, g9, g8, dl, i_9 gy, d1]
          exact ⟨⟨0, false, by first | rfl | trivial, by rw [hz]; rfl⟩, Fr.refl hk⟩
        · have d1 : decide ((y.toNat : Int) < 48) = false := decide_eq_false (by omega)
          have d2 : decide ((y.toNat : Int) > 57) = true := decide_eq_true (by omega)
          simp (maxDischargeDepth := 30) only [AMS, AMH, ↓reduceIte, Nat.reduceLT, Nat.reduceEqDiff, Nat.reduceAdd, Nat.reduceMul, reduceCtorEq, decide_true, decide_false, Nat.reduceLeDiff, Int.reduceNe, Int.reduceEq, ne_eq, not_false_eq_true, and_self, F99_P2, hk, g0, g6, g7, g9, g8, dl, i_9 gy, d1, d2]
          exact ⟨⟨0, false, by first | rfl | trivial, by rw [hz]; rfl⟩, Fr.refl hk⟩
      | true =>
        have hyr := dig_le hy
        have d1 : decide ((y.toNat : Int) < 48) = false := decide_eq_false (by omega)
        have d2 : decide ((y.toNat : Int) > 57) = false := decide_eq_false (by omega)
        have ev := val_snoc gy
        have ev' : 10 * (valB ((w).take i) : Int) + ((y.toNat : Int) - 48) = (valB ((w).take (i + 1)) : Int) := by rw [ev]; omega
        have hd' := dig_snoc gy hy hd
        simp (maxDischargeDepth := 30) only [AMS, AMH, ↓reduceIte, Nat.reduceLT, Nat.reduceEqDiff, Nat.reduceAdd, Nat.reduceMul, reduceCtorEq, decide_true, decide_false, Nat.reduceLeDiff, Int.reduceNe, Int.reduceEq, ne_eq, not_false_eq_true, and_self, F99_P2, hk, g0, g6, g7, g9, g8, dl, i_9 gy, d1, d2, cv_5_3, wrap64 (n := 10 * (valB ((w).take i) : Int)) (by omega) (by omega), wrap8 (n := (y.toNat : Int) - 48) (by omega) (by omega), wrap64 (n := (y.toNat : Int) - 48) (by omega) (by omega), ev', wrap64 (n := (valB ((w).take (i + 1)) : Int)) (by omega) (by omega), i_ok hil (by omega)]
        refine ih ((w).length - (i + 1)) _ _ (by omega) ?_
        exact ⟨i + 1, by omega, rfl, by simp [upd_at, g0], by simp [upd_at, g6], by simp [upd_at, g7], by simp [upd_at], by simp [upd_at], hd', rfl⟩
    have : i = (w).length := by omega
    subst this
    rw [List.take_length] at hd hsm g8
    have dl : decide ((((w).length : Nat) : Int) < ((bs w).data.toList.length : Nat)) = false := lt_f _
    have hz := numZ_is (w := w) (by rw [es]; exact hd) (by rw [es]; exact hlen.1) (by rw [es]; exact hlen.2)
    rw [es] at hz
    simp only at hz
    have hw1 := wrap64 (n := 1 * (valB (w) : Int)) (by omega) (by omega)
    simp (maxDischargeDepth := 30) only [AMS, AMH, ↓reduceIte, Nat.reduceLT, Nat.reduceEqDiff, Nat.reduceAdd, Nat.reduceMul, reduceCtorEq, decide_true, decide_false, Nat.reduceLeDiff, Int.reduceNe, Int.reduceEq, ne_eq, not_false_eq_true, and_self, F99_P2, hk, g0, g6, g7, g9, g8, dl, hw1]
    refine W_call (decimal_133 8 (1 * (valB (w) : Int)) (by omega) (Nat.le_refl _) hk) ?_
    rintro _ h2 ⟨rfl, fr2⟩
    simp (maxDischargeDepth := 30) only [AMS, AMH, ↓reduceIte, Nat.reduceLT, Nat.reduceEqDiff, Nat.reduceAdd, Nat.reduceMul, reduceCtorEq, decide_true, decide_false, Nat.reduceLeDiff, Int.reduceNe, Int.reduceEq, ne_eq, not_false_eq_true, and_self, F99_P2, fr2.ok, g0, s_eq]
    exact ⟨⟨_, _, rfl, hz⟩, fr2⟩
end Go.Am
