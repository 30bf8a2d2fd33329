/- Parts 145, 146 of the abstract machine over this program, joined: what each part says stands at its head. -/
import Derived.Test.YtfnkjclplfhjcaaGreatDoorJ144
set_option linter.unusedSimpArgs false
set_option linter.unusedVariables false
/- The abstract machine, part 145: contracts of the specification: the end of a text; the words of a tariff. -/
namespace Go.Am
open Go Go.Proofs
theorem F100_Am145 : type_of% (And.intro @ix_117 <| And.intro @ld_9 <| And.intro @len_117 <| And.intro @len_9 <| And.intro @part_9 <| And.intro @size_117 <| And.intro @size_9 <| And.intro @und_117 <| And.intro @und_3 <| And.intro @und_5 <| And.intro @und_9 <| And.intro @zero_117 @zero_9) := And.intro @ix_117 <| And.intro @ld_9 <| And.intro @len_117 <| And.intro @len_9 <| And.intro @part_9 <| And.intro @size_117 <| And.intro @size_9 <| And.intro @und_117 <| And.intro @und_3 <| And.intro @und_5 <| And.intro @und_9 <| And.intro @zero_117 @zero_9

def nl (r : Bs) : Bs := r ++ [10]
theorem glue_flat (c : UInt8) : ∀ (l : List Bs) (x : Bs), glue c (l ++ [x]) = l.flatMap (fun r : Bs => r ++ [c]) ++ x
  | [], x => rfl
  | [w], x => by simp [glue]
  | w :: v :: l, x => by
    have ih := glue_flat c (v :: l) x
    show w ++ c :: glue c (v :: l ++ [x]) = _
    rw [ih]; simp
theorem sealed_text (s : Sheet) : (rowsB s).flatMap nl ++ lastB s ++ [10] = textB s := by
  unfold textB
  have e : rowsB s ++ [lastB s] = wPrice :: ((itemsOfS s).map rowB ++ [lastB s]) := rfl
  rw [e, join_glue, ← e, glue_flat]
  rfl
theorem flat_len26 : ∀ (l : List Bs), (∀ r ∈ l, r.length ≤ 25) → (l.flatMap nl).length ≤ l.length * 26
  | [], _ => by simp
  | r :: l, h => by
    have ih := flat_len26 l fun x hx => h x (List.mem_cons_of_mem _ hx)
    have h0 := h r List.mem_cons_self
    have e : (nl r).length = r.length + 1 := by simp [nl]
    rw [List.flatMap_cons, List.length_append, e, List.length_cons]; omega

set_option maxRecDepth 10000 in
set_option maxHeartbeats 4000000 in
theorem sealed_100 {v : Value} {s : Sheet} {h : Heap} (hk : HOK h) (hv : LS h v (rowsB s) strC 1) (ho : okS s) (l1 : s.offs.length ≤ 1000) (l2 : s.boards.length ≤ 1000) (l3 : s.tars.length ≤ 1000) :
    CW CC 100 [v, .int .i64 211] h fun r h' => r = .string (bs (textB s)) ∧ Fr h h' := by
  obtain ⟨p, c, rfl, hx⟩ := hv.open
  have hnc := rows_count s
  have hrl := rows_len ho
  refine CW_in Tryz.f100 (by kernel_rfl) (by kernel_rfl) rfl rfl ?_
  simp only [Tryz.f100, bs_mk]
  simp (maxDischargeDepth := 30) only [AMS, AMH, ↓reduceIte, Nat.reduceLT, Nat.reduceEqDiff, Nat.reduceAdd, Nat.reduceMul, reduceCtorEq, decide_true, decide_false, Nat.reduceLeDiff, Int.reduceNe, Int.reduceEq, ne_eq, not_false_eq_true, and_self, F100_Am145, hk, bs_mk]
  refine W_loop (rowsB s).length (fun m f h' => ∃ i, i ≤ (rowsB s).length ∧ m = (rowsB s).length - i ∧ f 0 = .slice p (rowsB s).length c ∧ f 1 = .int .i64 211 ∧ f 7 = .int .i64 i ∧ f 5 = .string (bs (((rowsB s).take i).flatMap nl)) ∧
      f 6 = .int .i64 (ckN 0 ((rowsB s).take i) : Nat) ∧ h' = h)
    ⟨0, by omega, by omega, by simp [upd_at, argsFn_at], by simp [upd_at, argsFn_at], by simp [upd_at], by simp [upd_at], by simp [upd_at, ckN], rfl⟩ ?_
  rintro m f h1 ⟨i, hi, rfl, g0, g1, g7, g5, g6, rfl⟩ ih
  by_cases hil : i < (rowsB s).length
  · obtain ⟨r, gr⟩ : ∃ n, (rowsB s)[i]? = some n := ⟨_, List.getElem?_eq_getElem hil⟩
    rcases hx with hx | ⟨b, o, sp, row, rfl, hr, hx⟩
    · rw [hx] at hil; simp at hil
    have hcell : row[o + i]? = some (.string (bs r)) := by
      have := (hx _ _ gr).2 0 (by omega)
      simpa [strC] using this
    have lr := hrl r (List.mem_of_getElem? gr)
    have cb := ckN_le ((rowsB s).take i) 0 (fun x hx => by have := hrl x (take_mem hx); omega) (by simp; omega)
    have cl : ((rowsB s).take i).length ≤ 4096 := by simp; omega
    have cb2 : ((rowsB s).take i).length * 4278190080 ≤ 4096 * 4278190080 := Nat.mul_le_mul_right _ cl
    have fl := flat_len26 ((rowsB s).take i) fun x hx => hrl x (take_mem hx)
    have fl2 : ((rowsB s).take i).length * 26 ≤ 4096 * 26 := Nat.mul_le_mul_right _ cl
    have ef : (((rowsB s).take i).flatMap nl) ++ r ++ [10] = ((rowsB s).take (i + 1)).flatMap nl := by rw [take_snoc gr, List.flatMap_append]; simp [nl]
    simp (maxDischargeDepth := 30) only [AMS, AMH, ↓reduceIte, Nat.reduceLT, Nat.reduceEqDiff, Nat.reduceAdd, Nat.reduceMul, reduceCtorEq, decide_true, decide_false, Nat.reduceLeDiff, Int.reduceNe, Int.reduceEq, ne_eq, not_false_eq_true, and_self, F100_Am145, hk, g0, g7, g5, g6, lt_t hil]
    refine W_loop r.length (fun m' f' h' => ∃ k, k ≤ r.length ∧ m' = r.length - k ∧ f' 0 = .slice (some ⟨b, o, sp⟩) (rowsB s).length c ∧ f' 1 = .int .i64 211 ∧ f' 7 = .int .i64 i ∧ f' 8 = .int .i64 k ∧ f' 5 = .string (bs (((rowsB s).take i).flatMap nl)) ∧
        f' 6 = .int .i64 (ckN 0 ((rowsB s).take i) + ckR i 0 (r.take k) : Nat) ∧ h' = h1)
      ⟨0, by omega, by omega, by simp [upd_at, g0], by simp [upd_at, g1], by simp [upd_at, g7], by simp [upd_at], by simp [upd_at, g5], by simp [upd_at, g6, ckR], rfl⟩ ?_
    clear g0 g1 g7 g5 g6
    rintro m' f' h2 ⟨k, hk', rfl, g0, g1, g7, g8, g5, g6, rfl⟩ ih2
    by_cases hkl : k < r.length
    · obtain ⟨x, gx⟩ : ∃ n, r[k]? = some n := ⟨_, List.getElem?_eq_getElem hkl⟩
      have dl : decide ((k : Int) < ((bs r).data.toList.length : Nat)) = true := lt_t hkl
      have hx8 := x.toNat_lt
      have rb := ckR_le i (by omega) (r.take k) 0 (by simp; omega)
      have rl : (r.take k).length * 66846720 ≤ 64 * 66846720 := Nat.mul_le_mul_right _ (by simp; omega)
      have z1 : x.toNat * (k + 1) ≤ 255 * 64 := Nat.mul_le_mul (by omega) (by omega)
      have z2 : x.toNat * (k + 1) * (i + 1) ≤ 255 * 64 * 4096 := Nat.mul_le_mul z1 (by omega)
      have v1 : (x.toNat : Int) * ((k + 1 : Nat) : Int) = ((x.toNat * (k + 1) : Nat) : Int) := by push_cast; rfl
      have v2 : ((x.toNat * (k + 1) : Nat) : Int) * ((i + 1 : Nat) : Int) = ((x.toNat * (k + 1) * (i + 1) : Nat) : Int) := by push_cast; rfl
      have v3 : ((ckN 0 ((rowsB s).take i) + ckR i 0 (r.take k) : Nat) : Int) + ((x.toNat * (k + 1) * (i + 1) : Nat) : Int) = ((ckN 0 ((rowsB s).take i) + ckR i 0 (r.take (k + 1)) : Nat) : Int) := by rw [ckR_snoc gx]; push_cast; omega
      have w3 : ckR i 0 (r.take (k + 1)) = ckR i 0 (r.take k) + x.toNat * (k + 1) * (i + 1) := ckR_snoc gx
      generalize ckN 0 ((rowsB s).take i) = A at *
      generalize ckR i 0 (r.take k) = B at *
      simp (maxDischargeDepth := 30) only [AMS, AMH, ↓reduceIte, Nat.reduceLT, Nat.reduceEqDiff, Nat.reduceAdd, Nat.reduceMul, reduceCtorEq, decide_true, decide_false, Nat.reduceLeDiff, Int.reduceNe, Int.reduceEq, ne_eq, not_false_eq_true, and_self, F100_Am145, hk, g0, g7, g8, g6, hil, Nat.mul_one, hr, hcell, dl, i_9 gx, cv_5_3, wrap64 (n := (x.toNat : Int)) (by omega) (by omega), i_ok hkl (by omega), i_ok hil (by omega), v1, v2, v3, wrap64 (n := ((x.toNat * (k + 1) : Nat) : Int)) (by omega) (by omega), wrap64 (n := ((x.toNat * (k + 1) * (i + 1) : Nat) : Int)) (by omega) (by omega), wrap64 (n := ((A + ckR i 0 (r.take (k + 1)) : Nat) : Int)) (by omega) (by omega)]
      refine ih2 (r.length - (k + 1)) _ _ (by omega) ?_
      exact ⟨k + 1, by omega, rfl, by simp [upd_at, g0], by simp [upd_at, g1], by simp [upd_at, g7], by simp [upd_at], by simp [upd_at, g5], by simp [upd_at], rfl⟩
    have : k = r.length := by omega
    subst this
    rw [List.take_length, ← ckN_snoc gr] at g6
    clear ih2
    have dl : decide ((r.length : Int) < ((bs r).data.toList.length : Nat)) = false := lt_f _
    simp (maxDischargeDepth := 30) only [AMS, AMH, ↓reduceIte, Nat.reduceLT, Nat.reduceEqDiff, Nat.reduceAdd, Nat.reduceMul, reduceCtorEq, decide_true, decide_false, Nat.reduceLeDiff, Int.reduceNe, Int.reduceEq, ne_eq, not_false_eq_true, and_self, F100_Am145, hk, g0, g7, g8, g5, g6, hil, Nat.mul_one, hr, hcell, dl, s_add (a := (((rowsB s).take i).flatMap nl)) (b := r) (by omega), s_add (a := (((rowsB s).take i).flatMap nl) ++ r) (b := [10]) (by simp only [List.length_append, List.length_cons, List.length_nil]; omega), ef, i_ok hil (by omega)]
    refine ih ((rowsB s).length - (i + 1)) _ _ (by omega) ?_
    exact ⟨i + 1, by omega, rfl, by simp [upd_at, g0], by simp [upd_at, g1], by simp [upd_at], by simp [upd_at], by simp [upd_at, g6], rfl⟩
  have : i = (rowsB s).length := by omega
  subst this
  rw [List.take_length] at g6 g5
  clear ih
  have fl := flat_len26 (rowsB s) hrl
  have est := sealed_text s
  have hm : ckN 0 (rowsB s) % 211 < 211 := check_lt s
  have m1 : ((ckN 0 (rowsB s) : Nat) : Int).tmod 211 = ((ckN 0 (rowsB s) % 211 : Nat) : Int) := rfl
  have hle : lastB s = endB (ckN 0 (rowsB s) % 211) := rfl
  generalize ckN 0 (rowsB s) % 211 = C at hm m1 hle
  generalize ((rowsB s).flatMap nl) = F at g5 fl est
  have m2 : ((C : Nat) : Int).tdiv 100 = ((C / 100 : Nat) : Int) := rfl
  have m3 : ((C : Nat) : Int).tdiv 10 = ((C / 10 : Nat) : Int) := rfl
  have m4 : ((C / 10 : Nat) : Int).tmod 10 = ((C / 10 % 10 : Nat) : Int) := rfl
  have m5 : ((C : Nat) : Int).tmod 10 = ((C % 10 : Nat) : Int) := rfl
  have o1 : okN ((C / 100 : Nat) : Int) := ⟨by omega, by omega⟩
  have o2 : okN ((C / 10 % 10 : Nat) : Int) := ⟨by omega, by omega⟩
  have o3 : okN ((C % 10 : Nat) : Int) := ⟨by omega, by omega⟩
  have d1 := (dec_num o1).2.2.1
  have d2 := (dec_num o2).2.2.1
  have d3 := (dec_num o3).2.2.1
  obtain ⟨E, hE⟩ : ∃ E : Bs, E = [101, 110, 100, 32] := ⟨_, rfl⟩
  have lE : E.length = 4 := by rw [hE]; rfl
  have wE : Value.string (bs [101, 110, 100, 32]) = .string (bs E) := by rw [hE]
  have i10 : (10 : Int) ≠ 0 := by decide
  have i100 : (100 : Int) ≠ 0 := by decide
  have i211 : (211 : Int) ≠ 0 := by decide
  simp (maxDischargeDepth := 30) only [AMS, AMH, ↓reduceIte, Nat.reduceLT, Nat.reduceEqDiff, Nat.reduceAdd, Nat.reduceMul, reduceCtorEq, decide_true, decide_false, Nat.reduceLeDiff, Int.reduceNe, Int.reduceEq, ne_eq, not_false_eq_true, and_self, F100_Am145, hk, g0, g1, g7, g5, g6, lt_f, wE, I_rem, I_quo, i10, i100, i211, m1, m2, m3, m4, m5, wrap64 (n := ((C / 100 : Nat) : Int)) (by omega) (by omega), s_add (a := F) (b := E) (by omega)]
  refine W_call (decimal_pos o1 hk) ?_
  rintro _ h2 ⟨rfl, fr2⟩
  simp (maxDischargeDepth := 30) only [AMS, AMH, ↓reduceIte, Nat.reduceLT, Nat.reduceEqDiff, Nat.reduceAdd, Nat.reduceMul, reduceCtorEq, decide_true, decide_false, Nat.reduceLeDiff, Int.reduceNe, Int.reduceEq, ne_eq, not_false_eq_true, and_self, F100_Am145, fr2.ok, I_rem, I_quo, i10, i100, i211, m1, m2, m3, m4, m5, wrap64 (n := ((C / 10 : Nat) : Int)) (by omega) (by omega), s_add (a := F ++ E) (b := dec ((C / 100 : Nat) : Int)) (by simp only [List.length_append]; omega)]
  refine W_call (decimal_pos o2 fr2.ok) ?_
  rintro _ h3 ⟨rfl, fr3⟩
  simp (maxDischargeDepth := 30) only [AMS, AMH, ↓reduceIte, Nat.reduceLT, Nat.reduceEqDiff, Nat.reduceAdd, Nat.reduceMul, reduceCtorEq, decide_true, decide_false, Nat.reduceLeDiff, Int.reduceNe, Int.reduceEq, ne_eq, not_false_eq_true, and_self, F100_Am145, fr3.ok, I_rem, I_quo, i10, i100, i211, m1, m2, m3, m4, m5, s_add (a := F ++ E ++ dec ((C / 100 : Nat) : Int)) (b := dec ((C / 10 % 10 : Nat) : Int)) (by simp only [List.length_append]; omega)]
  refine W_call (decimal_pos o3 fr3.ok) ?_
  rintro _ h4 ⟨rfl, fr4⟩
  simp (maxDischargeDepth := 30) only [AMS, AMH, ↓reduceIte, Nat.reduceLT, Nat.reduceEqDiff, Nat.reduceAdd, Nat.reduceMul, reduceCtorEq, decide_true, decide_false, Nat.reduceLeDiff, Int.reduceNe, Int.reduceEq, ne_eq, not_false_eq_true, and_self, F100_Am145, fr4.ok, s_add (a := F ++ E ++ dec ((C / 100 : Nat) : Int) ++ dec ((C / 10 % 10 : Nat) : Int)) (b := dec ((C % 10 : Nat) : Int)) (by simp only [List.length_append]; omega), s_add (a := F ++ E ++ dec ((C / 100 : Nat) : Int) ++ dec ((C / 10 % 10 : Nat) : Int) ++ dec ((C % 10 : Nat) : Int)) (b := [10]) (by simp only [List.length_append, List.length_cons, List.length_nil]; omega)]
  refine ⟨?_, (fr2.trans fr3).trans fr4⟩
  have q1 : dec ((C / 100 : Nat) : Int) = digs 9 (C / 100) := rfl
  have q2 : dec ((C / 10 % 10 : Nat) : Int) = digs 9 (C / 10 % 10) := rfl
  have q3 : dec ((C % 10 : Nat) : Int) = digs 9 (C % 10) := rfl
  rw [← est, hle, hE, q1, q2, q3]
  unfold endB
  simp
end Go.Am

/- The abstract machine, part 146: contracts of the specification: tariff. -/
namespace Go.Am
open Go Go.Proofs
theorem F103_Am146 : type_of% (And.intro @bld_41 <| And.intro @fld_41_0 <| And.intro @fld_41_1 <| And.intro @fld_41_2 <| And.intro @fld_41_3 <| And.intro @fld_41_4 <| And.intro @ix_117 <| And.intro @ix_22 <| And.intro @ld_3 <| And.intro @ld_41 <| And.intro @ld_9 <| And.intro @len_117 <| And.intro @part_3 <| And.intro @part_9 <| And.intro @size_117 <| And.intro @size_22 <| And.intro @size_3 <| And.intro @size_41 <| And.intro @size_9 <| And.intro @sp_41_0 <| And.intro @sp_41_1 <| And.intro @sp_41_2 <| And.intro @sp_41_3 <| And.intro @sp_41_4 <| And.intro @und_117 <| And.intro @und_22 <| And.intro @zero_117 <| And.intro @zero_22 @zero_41) := And.intro @bld_41 <| And.intro @fld_41_0 <| And.intro @fld_41_1 <| And.intro @fld_41_2 <| And.intro @fld_41_3 <| And.intro @fld_41_4 <| And.intro @ix_117 <| And.intro @ix_22 <| And.intro @ld_3 <| And.intro @ld_41 <| And.intro @ld_9 <| And.intro @len_117 <| And.intro @part_3 <| And.intro @part_9 <| And.intro @size_117 <| And.intro @size_22 <| And.intro @size_3 <| And.intro @size_41 <| And.intro @size_9 <| And.intro @sp_41_0 <| And.intro @sp_41_1 <| And.intro @sp_41_2 <| And.intro @sp_41_3 <| And.intro @sp_41_4 <| And.intro @und_117 <| And.intro @und_22 <| And.intro @zero_117 <| And.intro @zero_22 @zero_41

theorem refTar_five (w a b r e : Bs) : refTar [w, a, b, r, e] = if (numB a = true ∧ numB b = true) ∧ 1 ≤ pos w kindList 0 ∧ 1 ≤ pos r ruleList' 0 ∧ 0 ≤ pos e whenList 0 then some ⟨pos w kindList 0, valB a, valB b, pos r ruleList' 0, decide (pos e whenList 0 = 1)⟩ else none := rfl
theorem refTar_len {ws : List Bs} (h : ws.length ≠ 5) : refTar ws = none := by
  unfold refTar
  split
  · simp at h
  · rfl
def T0 : Tar := ⟨0, 0, 0, 0, false⟩

set_option maxRecDepth 10000 in
set_option maxHeartbeats 4000000 in
theorem tariff_103 {N : Nat} {v : Value} {ws : List Bs} {h : Heap} (hk : HOK h) (hp : 0 < h.next) (q : SL N h v (ws.flatMap strC) 1 ws.length) (hl : ws.length ≤ 1000) (hw : ∀ w ∈ ws, w.length ≤ 100000) :
    CW CC 103 [v] h fun r h' => ((∃ x : Tar, refTar ws = some x ∧ r = .tuple ⟨[.agg ⟨x.cells⟩, .bool true]⟩) ∨ (refTar ws = none ∧ ∃ x : Tar, r = .tuple ⟨[.agg ⟨x.cells⟩, .bool false]⟩)) ∧ Fr h h' := by
  refine CW_in Tryz.f103 (by kernel_rfl) (by kernel_rfl) rfl rfl ?_
  simp only [Tryz.f103, bs_mk]
  have f1 : Fr h (h.alloc (.row [.int .i64 0, .int .i64 0, .int .i64 0, .int .i64 0, .bool false] 0 true)) := (Fr.refl hk).alloc _
  have z1 : (h.alloc (.row [.int .i64 0, .int .i64 0, .int .i64 0, .int .i64 0, .bool false] 0 true)).get h.next = some (.row [.int .i64 0, .int .i64 0, .int .i64 0, .int .i64 0, .bool false] 0 true) := get_at _ rfl
  have n1 : h.next < (h.alloc (.row [.int .i64 0, .int .i64 0, .int .i64 0, .int .i64 0, .bool false] 0 true)).next := by simp
  have hz : [Value.int .i64 0, .int .i64 0, .int .i64 0, .int .i64 0, .bool false] = T0.cells := rfl
  by_cases h5 : ws.length = 5
  rotate_left
  · obtain ⟨p, c, e⟩ := q.value
    subst e
    have d1 : ((ws.length : Int) != 5) = true := by simp; omega
    simp (maxDischargeDepth := 30) only [AMS, AMH, ↓reduceIte, Nat.reduceLT, Nat.reduceEqDiff, Nat.reduceAdd, Nat.reduceMul, reduceCtorEq, decide_true, decide_false, Nat.reduceLeDiff, Int.reduceNe, Int.reduceEq, ne_eq, not_false_eq_true, and_self, F103_Am146, hk, bs_mk, d1]
    exact ⟨.inr ⟨refTar_len h5, T0, rfl⟩, f1.set (Nat.le_refl _) n1 _⟩
  obtain ⟨w, a, b', r, e, rfl⟩ := five_of h5
  rcases q with ⟨_, _, e'⟩ | ⟨b, rfl, hb0, _, gb, _⟩
  · simp at e'
  obtain ⟨b, rfl⟩ : ∃ b', b = b' + 1 := ⟨b - 1, by omega⟩
  have d1 : (((0 + 1 + 1 + 1 + 1 + 1 : Nat) : Int) != 5) = false := rfl
  have s13 : aSlice CC 117 (.slice (some ⟨b + 1, 0, some 1⟩) 5 5) (some (.int .i64 1)) (some (.int .i64 3)) none = some (.slice (some ⟨b + 1, 1, some 1⟩) 2 4) := sl_117 b 0 5 5 1 3 (by omega) (by omega) (by omega)
  simp (maxDischargeDepth := 30) only [AMS, AMH, ↓reduceIte, Nat.reduceLT, Nat.reduceEqDiff, Nat.reduceAdd, Nat.reduceMul, reduceCtorEq, decide_true, decide_false, Nat.reduceLeDiff, Int.reduceNe, Int.reduceEq, ne_eq, not_false_eq_true, and_self, F103_Am146, hk, bs_mk, d1, s13, Option.map_some, Option.map_none]
  generalize (h.alloc (.row [.int .i64 0, .int .i64 0, .int .i64 0, .int .i64 0, .bool false] 0 true)) = h1 at f1 z1 n1 ⊢
  have k1 := f1.ok
  have g1 := f1.get' hk gb
  have r1 : rowAt h1 (b + 1) = some ([w, a, b', r, e].flatMap strC) := by unfold rowAt; rw [g1]; rfl
  have l1 : LS h1 (.slice (some ⟨b + 1, 1, some 1⟩) 2 4) [a, b'] strC 1 := LS.sub (ws := [w, a, b', r, e]) 1 2 r1 (by simp)
  refine W_call (plain_102 k1 (by omega) l1 (by simp) (fun x hx => hw x (by simp at hx; rcases hx with rfl | rfl <;> simp))) ?_
  rintro r2 h2 ⟨hr2, fr2⟩
  have hc : ∃ v' is, r2 = .tuple ⟨[v', .bool is]⟩ ∧ ((is = true ∧ (numB a = true ∧ numB b' = true) ∧ ∃ bl, v' = .slice (some ⟨bl, 0, some 1⟩) 2 2 ∧ h2.get bl = some (.row [.int .i64 (valB a), .int .i64 (valB b')] 1 true)) ∨ (is = false ∧ ¬ (numB a = true ∧ numB b' = true))) := by
    rcases hr2 with ⟨l, v', hp', rfl, q'⟩ | ⟨hp', v', rfl⟩
    · refine ⟨v', true, rfl, .inl ⟨rfl, ?_⟩⟩
      rw [plain_eq] at hp'
      split at hp'
      · rename_i hall
        simp only [Option.some.injEq] at hp'
        subst hp'
        have hab : numB a = true ∧ numB b' = true := by simpa using hall
        refine ⟨hab, ?_⟩
        rcases q' with ⟨_, e4, _⟩ | ⟨bl, rfl, _, _, gl, _⟩
        · simp [vals, ints] at e4
        · exact ⟨bl, rfl, gl⟩
      · cases hp'
    · refine ⟨v', false, rfl, .inr ⟨rfl, ?_⟩⟩
      rw [plain_eq] at hp'
      split at hp'
      · cases hp'
      · rename_i hall
        intro hab
        exact hall (by simp [hab])
  obtain ⟨v', is, rfl, hc⟩ := hc
  have f2 := f1.trans fr2
  have k2 := fr2.ok
  have r2 := fr2.row' k1 r1
  have z2 := fr2.get' k1 z1
  have u2 := row_lt k2 r2
  have c0 : ([w, a, b', r, e].flatMap strC)[0]? = some (.string (bs w)) := rfl
  have c3 : ([w, a, b', r, e].flatMap strC)[3]? = some (.string (bs r)) := rfl
  have c4 : ([w, a, b', r, e].flatMap strC)[4]? = some (.string (bs e)) := rfl
  have i0 : aIndexAddr CC 117 (.slice (some ⟨b + 1, 0, some 1⟩) 5 5) (.int .i64 0) = some (.pointer (some ⟨b + 1, 0, none⟩)) := ix_117 (b + 1) 0 (some 1) 5 5 0 (by omega)
  have i3 : aIndexAddr CC 117 (.slice (some ⟨b + 1, 0, some 1⟩) 5 5) (.int .i64 3) = some (.pointer (some ⟨b + 1, 3, none⟩)) := ix_117 (b + 1) 0 (some 1) 5 5 3 (by omega)
  have i4 : aIndexAddr CC 117 (.slice (some ⟨b + 1, 0, some 1⟩) 5 5) (.int .i64 4) = some (.pointer (some ⟨b + 1, 4, none⟩)) := ix_117 (b + 1) 0 (some 1) 5 5 4 (by omega)
  simp (maxDischargeDepth := 30) only [AMS, AMH, ↓reduceIte, Nat.reduceLT, Nat.reduceEqDiff, Nat.reduceAdd, Nat.reduceMul, reduceCtorEq, decide_true, decide_false, Nat.reduceLeDiff, Int.reduceNe, Int.reduceEq, ne_eq, not_false_eq_true, and_self, F103_Am146, k2]
  refine W_draw [(true, 1), (true, 2), (true, 3), (true, 6), (true, 7), (true, 8), (true, 11), (true, 12), (true, 13), (true, 0), (false, 3), (false, 8), (false, 13), (true, 4), (false, 8), (false, 13), (true, 5), (false, 8), (false, 13), (true, 9), (false, 13), (true, 10), (false, 13), (true, 14), (true, 15), (true, 16), (true, 17)] (by kernel_rfl) ?_
  simp (maxDischargeDepth := 30) only [AMS, AMH, ↓reduceIte, Nat.reduceLT, Nat.reduceEqDiff, Nat.reduceAdd, Nat.reduceMul, reduceCtorEq, decide_true, decide_false, Nat.reduceLeDiff, Int.reduceNe, Int.reduceEq, ne_eq, not_false_eq_true, and_self, AMR, F103_Am146, k2, i0, i3, i4, r2, c0, c3, c4]
  refine W_callP (kinds_97 k2) ?_
  rintro _ _ ⟨rfl, rfl⟩
  have kA := k2.alloc (.row (kindList.flatMap strC) 1 true)
  have rA : rowAt (h2.alloc (.row (kindList.flatMap strC) 1 true)) (b + 1) = some ([w, a, b', r, e].flatMap strC) := by rw [rowAt_old _ u2]; exact r2
  have lA : LS (h2.alloc (.row (kindList.flatMap strC) 1 true)) (.slice (some ⟨h2.next, 0, some 1⟩) 5 5) kindList strC 1 := LS.of_row (xs := kindList) strC_len (rowAt_new _ _ _ _)
  have frA := (Fr.refl k2).alloc (.row (kindList.flatMap strC) 1 true)
  have uA := row_lt kA rA
  simp (maxDischargeDepth := 30) only [AMS, AMH, ↓reduceIte, Nat.reduceLT, Nat.reduceEqDiff, Nat.reduceAdd, Nat.reduceMul, reduceCtorEq, decide_true, decide_false, Nat.reduceLeDiff, Int.reduceNe, Int.reduceEq, ne_eq, not_false_eq_true, and_self, AMR, F103_Am146, kA, i0, i3, i4, rA, c0, c3, c4]
  refine W_callP (index_135 (x := w) kA lA (by simp [kindList])) ?_
  generalize (h2.alloc (.row (kindList.flatMap strC) 1 true)) = hA at kA rA uA frA ⊢
  rintro _ hA ⟨rfl, rfl⟩
  simp (maxDischargeDepth := 30) only [AMS, AMH, ↓reduceIte, Nat.reduceLT, Nat.reduceEqDiff, Nat.reduceAdd, Nat.reduceMul, reduceCtorEq, decide_true, decide_false, Nat.reduceLeDiff, Int.reduceNe, Int.reduceEq, ne_eq, not_false_eq_true, and_self, AMR, F103_Am146, kA, i0, i3, i4, rA, c0, c3, c4]
  refine W_callP (rules_98 kA) ?_
  rintro _ _ ⟨rfl, rfl⟩
  have kB := kA.alloc (.row (ruleList'.flatMap strC) 1 true)
  have rB : rowAt (hA.alloc (.row (ruleList'.flatMap strC) 1 true)) (b + 1) = some ([w, a, b', r, e].flatMap strC) := by rw [rowAt_old _ uA]; exact rA
  have lB : LS (hA.alloc (.row (ruleList'.flatMap strC) 1 true)) (.slice (some ⟨hA.next, 0, some 1⟩) 5 5) ruleList' strC 1 := LS.of_row (xs := ruleList') strC_len (rowAt_new _ _ _ _)
  have frB := frA.alloc (.row (ruleList'.flatMap strC) 1 true)
  have uB := row_lt kB rB
  simp (maxDischargeDepth := 30) only [AMS, AMH, ↓reduceIte, Nat.reduceLT, Nat.reduceEqDiff, Nat.reduceAdd, Nat.reduceMul, reduceCtorEq, decide_true, decide_false, Nat.reduceLeDiff, Int.reduceNe, Int.reduceEq, ne_eq, not_false_eq_true, and_self, AMR, F103_Am146, kB, i0, i3, i4, rB, c0, c3, c4]
  refine W_callP (index_135 (x := r) kB lB (by simp [ruleList'])) ?_
  generalize (hA.alloc (.row (ruleList'.flatMap strC) 1 true)) = hB at kB rB uB frB ⊢
  rintro _ hB ⟨rfl, rfl⟩
  simp (maxDischargeDepth := 30) only [AMS, AMH, ↓reduceIte, Nat.reduceLT, Nat.reduceEqDiff, Nat.reduceAdd, Nat.reduceMul, reduceCtorEq, decide_true, decide_false, Nat.reduceLeDiff, Int.reduceNe, Int.reduceEq, ne_eq, not_false_eq_true, and_self, AMR, F103_Am146, kB, i0, i3, i4, rB, c0, c3, c4]
  refine W_callP (whens_99 kB) ?_
  rintro _ _ ⟨rfl, rfl⟩
  have kC := kB.alloc (.row (whenList.flatMap strC) 1 true)
  have rC : rowAt (hB.alloc (.row (whenList.flatMap strC) 1 true)) (b + 1) = some ([w, a, b', r, e].flatMap strC) := by rw [rowAt_old _ uB]; exact rB
  have lC : LS (hB.alloc (.row (whenList.flatMap strC) 1 true)) (.slice (some ⟨hB.next, 0, some 1⟩) 2 2) whenList strC 1 := LS.of_row (xs := whenList) strC_len (rowAt_new _ _ _ _)
  have frC := frB.alloc (.row (whenList.flatMap strC) 1 true)
  simp (maxDischargeDepth := 30) only [AMS, AMH, ↓reduceIte, Nat.reduceLT, Nat.reduceEqDiff, Nat.reduceAdd, Nat.reduceMul, reduceCtorEq, decide_true, decide_false, Nat.reduceLeDiff, Int.reduceNe, Int.reduceEq, ne_eq, not_false_eq_true, and_self, AMR, F103_Am146, kC, i0, i3, i4, rC, c0, c3, c4]
  refine W_callP (index_135 (x := e) kC lC (by simp [whenList])) ?_
  generalize (hB.alloc (.row (whenList.flatMap strC) 1 true)) = hC at kC rC frC ⊢
  rintro _ hC ⟨rfl, rfl⟩
  have fC := f2.trans frC
  have zC := frC.get' k2 z2
  have uz := get_lt kC zC
  simp (maxDischargeDepth := 30) only [AMS, AMH, ↓reduceIte, Nat.reduceLT, Nat.reduceEqDiff, Nat.reduceAdd, Nat.reduceMul, reduceCtorEq, decide_true, decide_false, Nat.reduceLeDiff, Int.reduceNe, Int.reduceEq, ne_eq, not_false_eq_true, and_self, AMR, F103_Am146, kC, i0, i3, i4, rC, c0, c3, c4]
  rw [refTar_five]
  have hpw := pos_lt w kindList 0
  have hpr := pos_lt r ruleList' 0
  have hpe := pos_lt e whenList 0
  have ll1 : kindList.length = 5 := rfl
  have ll2 : ruleList'.length = 5 := rfl
  have ll3 : whenList.length = 2 := rfl
  rw [ll1] at hpw
  rw [ll2] at hpr
  rw [ll3] at hpe
  generalize pos w kindList 0 = P at hpw ⊢
  generalize pos r ruleList' 0 = R at hpr ⊢
  generalize pos e whenList 0 = E at hpe ⊢
  have fin : ∀ x, Fr h (hC.set h.next x) := fun x => fC.set (Nat.le_refl _) uz _
  rcases hc with ⟨rfl, hab, bl, rfl, gl⟩ | ⟨rfl, hab⟩
  rotate_left
  · simp (maxDischargeDepth := 30) only [AMS, AMH, ↓reduceIte, Nat.reduceLT, Nat.reduceEqDiff, Nat.reduceAdd, Nat.reduceMul, reduceCtorEq, decide_true, decide_false, Nat.reduceLeDiff, Int.reduceNe, Int.reduceEq, ne_eq, not_false_eq_true, and_self, F103_Am146, kC, zC]
    exact ⟨.inr ⟨by rw [if_neg fun q => hab q.1], T0, rfl⟩, fin _⟩
  by_cases hP : 1 ≤ P
  rotate_left
  · have d1 : decide (P < 1) = true := decide_eq_true (by omega)
    simp (maxDischargeDepth := 30) only [AMS, AMH, ↓reduceIte, Nat.reduceLT, Nat.reduceEqDiff, Nat.reduceAdd, Nat.reduceMul, reduceCtorEq, decide_true, decide_false, Nat.reduceLeDiff, Int.reduceNe, Int.reduceEq, ne_eq, not_false_eq_true, and_self, F103_Am146, kC, zC, d1]
    exact ⟨.inr ⟨by rw [if_neg fun q => hP q.2.1], T0, rfl⟩, fin _⟩
  have d1 : decide (P < 1) = false := decide_eq_false (by omega)
  by_cases hR : 1 ≤ R
  rotate_left
  · have d2 : decide (R < 1) = true := decide_eq_true (by omega)
    simp (maxDischargeDepth := 30) only [AMS, AMH, ↓reduceIte, Nat.reduceLT, Nat.reduceEqDiff, Nat.reduceAdd, Nat.reduceMul, reduceCtorEq, decide_true, decide_false, Nat.reduceLeDiff, Int.reduceNe, Int.reduceEq, ne_eq, not_false_eq_true, and_self, F103_Am146, kC, zC, d1, d2]
    exact ⟨.inr ⟨by rw [if_neg fun q => hR q.2.2.1], T0, rfl⟩, fin _⟩
  have d2 : decide (R < 1) = false := decide_eq_false (by omega)
  by_cases hE : 0 ≤ E
  rotate_left
  · have d3 : decide (E < 0) = true := decide_eq_true (by omega)
    simp (maxDischargeDepth := 30) only [AMS, AMH, ↓reduceIte, Nat.reduceLT, Nat.reduceEqDiff, Nat.reduceAdd, Nat.reduceMul, reduceCtorEq, decide_true, decide_false, Nat.reduceLeDiff, Int.reduceNe, Int.reduceEq, ne_eq, not_false_eq_true, and_self, F103_Am146, kC, zC, d1, d2, d3]
    exact ⟨.inr ⟨by rw [if_neg fun q => hE q.2.2.2], T0, rfl⟩, fin _⟩
  have d3 : decide (E < 0) = false := decide_eq_false (by omega)
  have gC := frC.get' k2 gl
  have rl : rowAt hC bl = some [.int .i64 (valB a), .int .i64 (valB b')] := by unfold rowAt; rw [gC]; rfl
  have j0 : aIndexAddr CC 22 (.slice (some ⟨bl, 0, some 1⟩) 2 2) (.int .i64 0) = some (.pointer (some ⟨bl, 0, none⟩)) := ix_22 bl 0 (some 1) 2 2 0 (by omega)
  have j1 : aIndexAddr CC 22 (.slice (some ⟨bl, 0, some 1⟩) 2 2) (.int .i64 1) = some (.pointer (some ⟨bl, 1, none⟩)) := ix_22 bl 0 (some 1) 2 2 1 (by omega)
  simp (maxDischargeDepth := 30) only [AMS, AMH, ↓reduceIte, Nat.reduceLT, Nat.reduceEqDiff, Nat.reduceAdd, Nat.reduceMul, reduceCtorEq, decide_true, decide_false, Nat.reduceLeDiff, Int.reduceNe, Int.reduceEq, ne_eq, not_false_eq_true, and_self, F103_Am146, kC, d1, d2, d3]
  refine W_draw [(true, 0), (true, 1), (true, 2), (true, 3), (true, 4), (true, 5), (true, 6), (true, 7), (true, 8), (true, 9), (true, 10), (true, 11), (true, 12)] (by kernel_rfl) ?_
  simp (maxDischargeDepth := 30) only [AMS, AMH, ↓reduceIte, Nat.reduceLT, Nat.reduceEqDiff, Nat.reduceAdd, Nat.reduceMul, reduceCtorEq, decide_true, decide_false, Nat.reduceLeDiff, Int.reduceNe, Int.reduceEq, ne_eq, not_false_eq_true, and_self, AMR, F103_Am146, kC, j0, j1, rl, zC]
  refine ⟨.inl ⟨_, by rw [if_pos ⟨hab, hP, hR, hE⟩], ?_⟩, fin _⟩
  have : (E == (1 : Int)) = decide (E = 1) := by rw [Bool.eq_iff_iff]; simp
  simp [Tar.cells, this]
end Go.Am
