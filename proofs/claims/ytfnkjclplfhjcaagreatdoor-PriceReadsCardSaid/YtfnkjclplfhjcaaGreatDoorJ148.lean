/- Parts 148 of the abstract machine over this program, joined: what each part says stands at its head. -/
import Derived.Test.YtfnkjclplfhjcaaGreatDoorJ147
set_option linter.unusedSimpArgs false
set_option linter.unusedVariables false
/- The abstract machine, part 148: contracts of the specification: Read. -/
namespace Go.Am
open Go Go.Proofs
theorem F67_Am148 : type_of% (And.intro @bld_26 <| And.intro @bld_30 <| And.intro @bld_72 <| And.intro @bs_22 <| And.intro @fld_26_0 <| And.intro @fld_26_1 <| And.intro @fld_26_2 <| And.intro @fld_30_0 <| And.intro @fld_30_1 <| And.intro @fld_72_0 <| And.intro @fld_72_1 <| And.intro @fld_72_2 <| And.intro @fld_72_3 <| And.intro @fp_26_0 <| And.intro @fp_26_1 <| And.intro @fp_26_2 <| And.intro @ix_117 <| And.intro @ix_22 <| And.intro @ix_23 <| And.intro @ix_24 <| And.intro @ld_22 <| And.intro @ld_23 <| And.intro @ld_24 <| And.intro @ld_26 <| And.intro @ld_3 <| And.intro @ld_41 <| And.intro @ld_9 <| And.intro @len_117 <| And.intro @len_22 <| And.intro @part_3 <| And.intro @part_41 <| And.intro @part_72 <| And.intro @part_9 <| And.intro @size_117 <| And.intro @size_22 <| And.intro @size_23 <| And.intro @size_24 <| And.intro @size_26 <| And.intro @size_3 <| And.intro @size_30 <| And.intro @size_41 <| And.intro @size_72 <| And.intro @size_9 <| And.intro @sp_26_0 <| And.intro @sp_26_1 <| And.intro @sp_26_2 <| And.intro @sp_30_0 <| And.intro @sp_30_1 <| And.intro @sp_72_0 <| And.intro @sp_72_1 <| And.intro @sp_72_2 <| And.intro @sp_72_3 <| And.intro @und_117 <| And.intro @und_22 <| And.intro @und_23 <| And.intro @und_24 <| And.intro @zero_117 <| And.intro @zero_22 <| And.intro @zero_23 <| And.intro @zero_24 <| And.intro @zero_26 <| And.intro @zero_30 <| And.intro @zero_41 @zero_72) := And.intro @bld_26 <| And.intro @bld_30 <| And.intro @bld_72 <| And.intro @bs_22 <| And.intro @fld_26_0 <| And.intro @fld_26_1 <| And.intro @fld_26_2 <| And.intro @fld_30_0 <| And.intro @fld_30_1 <| And.intro @fld_72_0 <| And.intro @fld_72_1 <| And.intro @fld_72_2 <| And.intro @fld_72_3 <| And.intro @fp_26_0 <| And.intro @fp_26_1 <| And.intro @fp_26_2 <| And.intro @ix_117 <| And.intro @ix_22 <| And.intro @ix_23 <| And.intro @ix_24 <| And.intro @ld_22 <| And.intro @ld_23 <| And.intro @ld_24 <| And.intro @ld_26 <| And.intro @ld_3 <| And.intro @ld_41 <| And.intro @ld_9 <| And.intro @len_117 <| And.intro @len_22 <| And.intro @part_3 <| And.intro @part_41 <| And.intro @part_72 <| And.intro @part_9 <| And.intro @size_117 <| And.intro @size_22 <| And.intro @size_23 <| And.intro @size_24 <| And.intro @size_26 <| And.intro @size_3 <| And.intro @size_30 <| And.intro @size_41 <| And.intro @size_72 <| And.intro @size_9 <| And.intro @sp_26_0 <| And.intro @sp_26_1 <| And.intro @sp_26_2 <| And.intro @sp_30_0 <| And.intro @sp_30_1 <| And.intro @sp_72_0 <| And.intro @sp_72_1 <| And.intro @sp_72_2 <| And.intro @sp_72_3 <| And.intro @und_117 <| And.intro @und_22 <| And.intro @und_23 <| And.intro @und_24 <| And.intro @zero_117 <| And.intro @zero_22 <| And.intro @zero_23 <| And.intro @zero_24 <| And.intro @zero_26 <| And.intro @zero_30 <| And.intro @zero_41 @zero_72

theorem refItem_one {ws : List Bs} {n : Int} (h : plainZ ws.tail = some [n]) : refItem ws = some (.o n) := by
  unfold refItem; rw [h]
theorem refItem_five {ws : List Bs} {a b c d e : Int} (h : plainZ ws.tail = some [a, b, c, d, e]) : refItem ws = some (.b ⟨a, b, c, d, e⟩) := by
  unfold refItem; rw [h]
theorem refItem_tar {ws : List Bs} (h : plainZ ws.tail = none ∨ ∃ l, plainZ ws.tail = some l ∧ l.length ≠ 1 ∧ l.length ≠ 5) : refItem ws = (refTar ws).map .t := by
  unfold refItem
  rcases h with h | ⟨l, h, h1, h5⟩
  · rw [h]
  · rw [h]
    match l, h1, h5 with
    | [], _, _ => rfl
    | [_], h1, _ => simp at h1
    | [_, _], _, _ => rfl
    | [_, _, _], _, _ => rfl
    | [_, _, _, _], _, _ => rfl
    | [_, _, _, _, _], _, h5 => simp at h5
    | _ :: _ :: _ :: _ :: _ :: _ :: _, _, _ => rfl
theorem refP_bad {t : Bs} (h : refItems (midB t) = none) : refParse t = none := by
  unfold refParse; rw [h]
theorem refP_is {t : Bs} {l : List Item} (h : refItems (midB t) = some l) : refParse t = if textB (sheetOf l) = t then some (sheetOf l) else none := by
  unfold refParse; rw [h]
theorem mid_at {t : Bs} {i : Nat} {r : Bs} (h : (midB t)[i]? = some r) : (cutAt 10 t)[1 + i]? = some r := by
  unfold midB at h
  rw [List.getElem?_take_of_lt (by have := (List.getElem?_eq_some_iff.1 h).1; simp at this; omega), List.getElem?_drop] at h
  exact h
theorem midB_len (t : Bs) : (midB t).length = (cutAt 10 t).length - 3 := by
  unfold midB
  have := cut_pos 10 t
  simp; omega

set_option maxRecDepth 10000 in
set_option maxHeartbeats 4000000 in
theorem read_67 {t : Bs} {h : Heap} (hk : HOK h) (hp : 0 < h.next) (hl : t.length ≤ 900) :
    CW CC 67 [.string (bs t)] h fun r h' => (∃ a b c is s, r = .tuple ⟨[.agg ⟨[a, b, c]⟩, .bool is]⟩ ∧ IsSheet h' a b c s ∧ ((is = true ∧ parseB t = some s) ∨ (is = false ∧ parseB t = none ∧ s = S0))) ∧ Fr h h' := by
  rw [← ref_parse]
  have hcl := cut_len 10 t
  have hcp := cut_pos 10 t
  have hml := midB_len t
  refine CW_in Tryz.f67 (by kernel_rfl) (by kernel_rfl) rfl rfl ?_
  simp only [Tryz.f67, bs_mk]
  have f1 : Fr h ((h.alloc (.row [.slice none 0 0, .slice none 0 0, .slice none 0 0] 0 true)).alloc (.row [.slice none 0 0, .slice none 0 0, .slice none 0 0] 0 true)) := ((Fr.refl hk).alloc _).alloc _
  have z1 : ((h.alloc (.row [.slice none 0 0, .slice none 0 0, .slice none 0 0] 0 true)).alloc (.row [.slice none 0 0, .slice none 0 0, .slice none 0 0] 0 true)).get h.next = some (.row [.slice none 0 0, .slice none 0 0, .slice none 0 0] 0 true) := by rw [get_old _ (by simp)]; exact get_at _ rfl
  have s1 : ((h.alloc (.row [.slice none 0 0, .slice none 0 0, .slice none 0 0] 0 true)).alloc (.row [.slice none 0 0, .slice none 0 0, .slice none 0 0] 0 true)).get (h.next + 1) = some (.row [.slice none 0 0, .slice none 0 0, .slice none 0 0] 0 true) := get_at _ (by simp)
  simp (maxDischargeDepth := 30) only [AMS, AMH, ↓reduceIte, Nat.reduceLT, Nat.reduceEqDiff, Nat.reduceAdd, Nat.reduceMul, reduceCtorEq, decide_true, decide_false, Nat.reduceLeDiff, Int.reduceNe, Int.reduceEq, ne_eq, not_false_eq_true, and_self, F67_Am148, hk, bs_mk]
  generalize ((h.alloc (.row [.slice none 0 0, .slice none 0 0, .slice none 0 0] 0 true)).alloc (.row [.slice none 0 0, .slice none 0 0, .slice none 0 0] 0 true)) = h1 at f1 z1 s1 ⊢
  have k1 := f1.ok
  have m1 := get_lt k1 s1
  have u10 : Value.int .u8 10 = .int .u8 ((10 : UInt8).toNat : Nat) := rfl
  rw [show (Value.int IntKind.u8 10) = .int .u8 ((10 : UInt8).toNat : Nat) from rfl]
  refine W_call (split_101 (s := t) (c := 10) k1 (by omega) (by omega)) ?_
  rintro v h2 ⟨q2, fr2⟩
  have f2 := f1.trans fr2
  have k2 := f2.ok
  have z2 := fr2.get' k1 z1
  have s2 := fr2.get' k1 s1
  rcases q2 with ⟨_, _, e0⟩ | ⟨b, rfl, hb0, hN, hg, hlen⟩
  · omega
  obtain ⟨b, rfl⟩ : ∃ b', b = b' + 1 := ⟨b - 1, by omega⟩
  have hbl := get_lt k2 hg
  simp (maxDischargeDepth := 30) only [AMS, AMH, ↓reduceIte, Nat.reduceLT, Nat.reduceEqDiff, Nat.reduceAdd, Nat.reduceMul, reduceCtorEq, decide_true, decide_false, Nat.reduceLeDiff, Int.reduceNe, Int.reduceEq, ne_eq, not_false_eq_true, and_self, F67_Am148, k2]
  refine W_loop (midB t).length (fun m f h' => ∃ i l v0 v1 v2, i ≤ (midB t).length ∧ m = (midB t).length - i ∧ f 0 = .string (bs t) ∧ f 2 = .pointer (some ⟨h.next, 0, none⟩) ∧ f 4 = .pointer (some ⟨h.next + 1, 0, none⟩) ∧ f 5 = .slice (some ⟨b + 1, 0, some 1⟩) (cutAt 10 t).length (cutAt 10 t).length ∧ f 6 = .int .i64 ((i : Int) + 1) ∧
      refItems ((midB t).take i) = some l ∧ h'.get (h.next + 1) = some (.row [v0, v1, v2] 0 true) ∧ Acc h2.next h' v0 v1 v2 (sheetOf l) ∧ HOK h' ∧ h2.next ≤ h'.next ∧ ∀ j, j < h2.next → j ≠ h.next + 1 → h'.get j = h2.get j)
    ⟨0, [], _, _, _, by omega, by omega, by simp [upd_at, argsFn_at], by simp [upd_at], by simp [upd_at], by simp [upd_at], by simp [upd_at], by simp [refItems], s2, Acc.nil _ _, k2, Nat.le_refl _, fun _ _ _ => rfl⟩ ?_
  have n12 := fr2.next
  rintro m f h4 ⟨i, l, v0, v1, v2, hi, rfl, g0, g2, g4, g5, g6, hits, gS, A, k4, n4, fr4⟩ ih
  have hll := refs_len hits
  have hsl := sheet_len l
  have hit : l.length ≤ 1000 := by rw [hll]; simp; omega
  have F4 : ∀ {H : Heap}, HOK H → h2.next ≤ H.next → (∀ j, j < h2.next → j ≠ h.next + 1 → H.get j = h2.get j) → Fr h H := fun kH nH gH => ⟨kH, by have := f2.next; omega, fun j hj => by have := f2.next; rw [gH j (by omega) (by omega)]; exact f2.get j hj⟩
  have z4 : h4.get h.next = some (.row [.slice none 0 0, .slice none 0 0, .slice none 0 0] 0 true) := by rw [fr4 _ (by have := f2.next; omega) (by omega)]; exact z2
  have w2 := wrap64 (n := ((cutAt 10 t).length : Int) - 2) (by omega) (by omega)
  by_cases hil : i < (midB t).length
  rotate_left
  · have : i = (midB t).length := by omega
    subst this
    rw [List.take_length] at hits
    clear ih
    have d1 : decide ((((midB t).length : Int) + 1) < ((cutAt 10 t).length : Int) - 2) = false := decide_eq_false (by omega)
    have rS : rowAt h4 (h.next + 1) = some [v0, v1, v2] := by unfold rowAt; rw [gS]; rfl
    have hokS := okS_of (refs_ok hits)
    simp (maxDischargeDepth := 30) only [AMS, AMH, ↓reduceIte, Nat.reduceLT, Nat.reduceEqDiff, Nat.reduceAdd, Nat.reduceMul, reduceCtorEq, decide_true, decide_false, Nat.reduceLeDiff, Int.reduceNe, Int.reduceEq, ne_eq, not_false_eq_true, and_self, F67_Am148, k4, g0, g2, g4, g5, g6, w2, d1, rS]
    refine W_call (print_65 k4 (by omega) A.sheet hokS (by omega) (by omega) (by omega)) ?_
    rintro _ h5 ⟨rfl, fr5⟩
    have k5 := fr5.ok
    have r5 := fr5.row' k4 rS
    have z5 := fr5.get' k4 z4
    have f5 := (F4 k4 n4 fr4).trans fr5
    have u5 := get_lt k5 z5
    by_cases ht : textB (sheetOf l) = t
    · have d2 : decide (textB (sheetOf l) = t) = true := decide_eq_true ht
      have A5 := A.fr k4 fr5
      obtain ⟨p0, c0, e0⟩ := A5.sheet.offs.len
      obtain ⟨p1, c1, e1⟩ := A5.sheet.boards.len
      obtain ⟨p2, c2, e2⟩ := A5.sheet.tars.len
      subst e0; subst e1; subst e2
      simp (maxDischargeDepth := 30) only [AMS, AMH, ↓reduceIte, Nat.reduceLT, Nat.reduceEqDiff, Nat.reduceAdd, Nat.reduceMul, reduceCtorEq, decide_true, decide_false, Nat.reduceLeDiff, Int.reduceNe, Int.reduceEq, ne_eq, not_false_eq_true, and_self, F67_Am148, k5, g0, g2, g4, s_eq, d2, r5, z5]
      exact ⟨⟨_, _, _, true, sheetOf l, rfl, (A5.put z5 _).sheet, .inl ⟨rfl, by rw [refP_is hits, if_pos ht]⟩⟩, f5.set (Nat.le_refl _) u5 _⟩
    · have d2 : decide (textB (sheetOf l) = t) = false := decide_eq_false ht
      simp (maxDischargeDepth := 30) only [AMS, AMH, ↓reduceIte, Nat.reduceLT, Nat.reduceEqDiff, Nat.reduceAdd, Nat.reduceMul, reduceCtorEq, decide_true, decide_false, Nat.reduceLeDiff, Int.reduceNe, Int.reduceEq, ne_eq, not_false_eq_true, and_self, F67_Am148, k5, g0, g2, g4, s_eq, d2, z5]
      exact ⟨⟨_, _, _, false, S0, rfl, S0_is _, .inr ⟨rfl, by rw [refP_is hits, if_neg ht], rfl⟩⟩, f5.set (Nat.le_refl _) u5 _⟩
  obtain ⟨r, gr⟩ : ∃ n, (midB t)[i]? = some n := ⟨_, List.getElem?_eq_getElem hil⟩
  have hcell := strs_get (mid_at gr)
  have hrl : r.length ≤ t.length := by
    have := List.mem_of_getElem? gr
    unfold midB at this
    exact cut_mem (List.mem_of_mem_drop (List.mem_of_mem_take this))
  have hrw := cut_len 32 r
  have hwl : ∀ w ∈ cutAt 32 r, w.length ≤ 100000 := fun w hw => by have := cut_mem hw; omega
  have g4' : h4.get (b + 1) = some (.row ((cutAt 10 t).flatMap strC) 1 true) := by
    rw [fr4 _ hbl (by omega)]
    exact hg
  have rb4 : rowAt h4 (b + 1) = some ((cutAt 10 t).flatMap strC) := by unfold rowAt; rw [g4']; rfl
  have d1 : decide (((i : Int) + 1) < ((cutAt 10 t).length : Int) - 2) = true := decide_eq_true (by omega)
  have ii : aIndexAddr CC 117 (.slice (some ⟨b + 1, 0, some 1⟩) (cutAt 10 t).length (cutAt 10 t).length) (.int .i64 ((i : Int) + 1)) = some (.pointer (some ⟨b + 1, 1 + i, none⟩)) := by
    have := ix_117 (b + 1) 0 (some 1) (cutAt 10 t).length (cutAt 10 t).length (i + 1) (by omega)
    rw [show (((i + 1 : Nat)) : Int) = (i : Int) + 1 by omega] at this
    rw [this, Nat.zero_add, Nat.mul_one, Nat.add_comm 1 i]
  have wi := wrap64 (n := (i : Int) + 1 + 1) (by omega) (by omega)
  have hnx : ((i + 1 : Nat) : Int) + 1 = (i : Int) + 1 + 1 := by omega
  simp (maxDischargeDepth := 30) only [AMS, AMH, ↓reduceIte, Nat.reduceLT, Nat.reduceEqDiff, Nat.reduceAdd, Nat.reduceMul, reduceCtorEq, decide_true, decide_false, Nat.reduceLeDiff, Int.reduceNe, Int.reduceEq, ne_eq, not_false_eq_true, and_self, F67_Am148, k4, g0, g2, g4, g5, g6, w2, d1, ii, rb4, hcell]
  rw [show (Value.int IntKind.u8 32) = .int .u8 ((32 : UInt8).toNat : Nat) from rfl]
  refine W_call (split_101 (s := r) (c := 32) k4 (by omega) (by omega)) ?_
  rintro v h5 ⟨q5, fr5⟩
  have k5 := fr5.ok
  have gS5 := fr5.get' k4 gS
  have A5 := A.fr k4 fr5
  have hwp := cut_pos 32 r
  rcases q5 with ⟨_, _, e0⟩ | ⟨c, rfl, hc0, hcN, hcg, hclen⟩
  · omega
  obtain ⟨c, rfl⟩ : ∃ b', c = b' + 1 := ⟨c - 1, by omega⟩
  obtain ⟨w, ws, hws⟩ : ∃ w ws, cutAt 32 r = w :: ws := by
    cases e : cutAt 32 r with
    | nil => rw [e] at hwp; simp at hwp
    | cons w ws => exact ⟨w, ws, rfl⟩
  have hbad : refItem (cutAt 32 r) = none → refParse t = none := fun e => refP_bad (refs_bad gr e)
  have hgood : ∀ it, refItem (cutAt 32 r) = some it → refItems ((midB t).take (i + 1)) = some (l ++ [it]) := fun it e => refs_snoc gr hits e
  rw [hws] at hcg hclen hbad hgood hrw hwl
  rw [hws]
  have rc5 : rowAt h5 (c + 1) = some ((w :: ws).flatMap strC) := by unfold rowAt; rw [hcg]; rfl
  have sn : aSlice CC 117 (.slice (some ⟨c + 1, 0, some 1⟩) (ws.length + 1) (ws.length + 1)) (some (.int .i64 1)) none none = some (.slice (some ⟨c + 1, 1, some 1⟩) ws.length ws.length) := by
    have := sl_117n c 0 (ws.length + 1) (ws.length + 1) 1 (by omega) (by omega)
    simpa using this
  have ls : LS h5 (.slice (some ⟨c + 1, 1, some 1⟩) ws.length ws.length) ws strC 1 := by
    have := LS.sub (h := h5) (b := c + 1) (ws := w :: ws) 1 ws.length (c := ws.length) (sp := some 1) rc5 (by simp; omega)
    simpa using this
  have lws : ws.length ≤ 1000 := by simp only [List.length_cons] at hrw; omega
  simp (maxDischargeDepth := 30) only [AMS, AMH, ↓reduceIte, Nat.reduceLT, Nat.reduceEqDiff, Nat.reduceAdd, Nat.reduceMul, reduceCtorEq, decide_true, decide_false, Nat.reduceLeDiff, Int.reduceNe, Int.reduceEq, ne_eq, not_false_eq_true, and_self, F67_Am148, k5, sn, Option.map_some, Option.map_none]
  refine W_call (plain_102 k5 (by have := fr5.next; omega) ls lws fun x hx => hwl x (List.mem_cons_of_mem _ hx)) ?_
  rintro r6 h6 ⟨hr6, fr6⟩
  have k6 := fr6.ok
  have g6c := fr6.get' k5 hcg
  have gS6 := fr6.get' k5 gS5
  have A6 := A5.fr k5 fr6
  have n6 := fr6.next
  have n5 := fr5.next
  have fr46 := fr5.trans fr6
  have fX : ∀ j, j < h2.next → j ≠ h.next + 1 → h6.get j = h2.get j := fun j hj hne => by rw [fr46.get j (by omega)]; exact fr4 j hj hne
  have z6 := fr46.get' k4 z4
  have rS6 : rowAt h6 (h.next + 1) = some [v0, v1, v2] := by unfold rowAt; rw [gS6]; rfl
  obtain ⟨p0, q0, rfl⟩ := A6.sheet.offs.len
  obtain ⟨p1, q1, rfl⟩ := A6.sheet.boards.len
  obtain ⟨p2, q2, rfl⟩ := A6.sheet.tars.len
  have q6 : SL 0 h6 (.slice (some ⟨c + 1, 0, some 1⟩) (ws.length + 1) (ws.length + 1)) ((w :: ws).flatMap strC) 1 (w :: ws).length := .inr ⟨c + 1, rfl, by omega, Nat.zero_le _, g6c, by rw [flat_len strC_len]⟩
  have mS6 := get_lt k6 gS6
  -- a line that must be that of a tariff
  have hcase : (∃ n bl, plainZ ws = some [n] ∧ r6 = .tuple ⟨[.slice (some ⟨bl, 0, some 1⟩) 1 1, .bool true]⟩ ∧ h6.get bl = some (.row [.int .i64 n] 1 true)) ∨
      (∃ a b' c' d e bl, plainZ ws = some [a, b', c', d, e] ∧ r6 = .tuple ⟨[.slice (some ⟨bl, 0, some 1⟩) 5 5, .bool true]⟩ ∧ h6.get bl = some (.row [.int .i64 a, .int .i64 b', .int .i64 c', .int .i64 d, .int .i64 e] 1 true)) ∨
      (∃ p n c, r6 = .tuple ⟨[.slice p n c, .bool true]⟩ ∧ n ≠ 1 ∧ n ≠ 5 ∧ ∃ l, plainZ ws = some l ∧ l.length ≠ 1 ∧ l.length ≠ 5) ∨ (∃ v, r6 = .tuple ⟨[v, .bool false]⟩ ∧ plainZ ws = none) := by
    rcases hr6 with ⟨l', v', hp', rfl, q'⟩ | ⟨hp', v', rfl⟩
    · by_cases h1' : l'.length = 1
      · match l', h1', q', hp' with
        | [n], _, q', hp' =>
          rcases q' with ⟨_, e4, _⟩ | ⟨bl, rfl, _, _, gl, _⟩
          · simp [ints] at e4
          · exact .inl ⟨n, bl, hp', rfl, gl⟩
      · by_cases h5' : l'.length = 5
        · match l', h5', q', hp' with
          | [a, b', c', d, e], _, q', hp' =>
            rcases q' with ⟨_, e4, _⟩ | ⟨bl, rfl, _, _, gl, _⟩
            · simp [ints] at e4
            · exact .inr (.inl ⟨a, b', c', d, e, bl, hp', rfl, gl⟩)
        · obtain ⟨p', c', e'⟩ := q'.value
          subst e'
          exact .inr (.inr (.inl ⟨_, _, _, rfl, h1', h5', l', hp', h1', h5'⟩))
    · exact .inr (.inr (.inr ⟨v', rfl, hp'⟩))
  have tarif : ∀ (f' : Nat → Value), True := fun _ => trivial
  clear tarif hr6
  rcases hcase with ⟨n, bl, hp', rfl, gl⟩ | ⟨a, b', c', d, e, bl, hp', rfl, gl⟩ | hrest
  · have rl : rowAt h6 bl = some [.int .i64 n] := by unfold rowAt; rw [gl]; rfl
    have j0 : aIndexAddr CC 22 (.slice (some ⟨bl, 0, some 1⟩) 1 1) (.int .i64 0) = some (.pointer (some ⟨bl, 0, none⟩)) := ix_22 bl 0 (some 1) 1 1 0 (by omega)
    have d3 : (((1 : Nat) : Int) == 1) = true := rfl
    have kA := k6.alloc (.row [.int .i64 n] 1 true)
    have frA := (Fr.refl k6).alloc (.row [.int .i64 n] 1 true)
    obtain ⟨v0', h9, e9, ⟨pa, pb, pc, rfl⟩, A9, k9, n9, g9, t9⟩ := (A6.fr k6 frA).addO kA (by simp; omega) (by simp) (x := .slice (some ⟨h6.next, 0, some 1⟩) 1 1) (n := n) rfl (by
      show obind (rowAt _ h6.next) (fun cells => take? cells 0 (1 * 1)) = _
      rw [rowAt_new]; rfl) (by omega)
    have gSA : (h6.alloc (.row [.int .i64 n] 1 true)).get (h.next + 1) = some (.row [.slice p0 (sheetOf l).offs.length q0, .slice p1 (sheetOf l).boards.length q1, .slice p2 (sheetOf l).tars.length q2] 0 true) := by rw [get_old _ mS6]; exact gS6
    have gS9 := t9 _ _ gSA
    have rS9 : rowAt h9 (h.next + 1) = some [.slice p0 (sheetOf l).offs.length q0, .slice p1 (sheetOf l).boards.length q1, .slice p2 (sheetOf l).tars.length q2] := by unfold rowAt; rw [gS9]; rfl
    simp (maxDischargeDepth := 30) only [AMS, AMH, ↓reduceIte, Nat.reduceLT, Nat.reduceEqDiff, Nat.reduceAdd, Nat.reduceMul, reduceCtorEq, decide_true, decide_false, Nat.reduceLeDiff, Int.reduceNe, Int.reduceEq, ne_eq, not_false_eq_true, and_self, F67_Am148, k6, g4, d3]
    refine W_draw [(true, 0), (true, 1), (true, 2), (true, 3), (true, 4), (true, 5), (true, 6), (true, 7), (true, 8)] (by kernel_rfl) ?_
    simp (maxDischargeDepth := 30) only [AMS, AMH, ↓reduceIte, Nat.reduceLT, Nat.reduceEqDiff, Nat.reduceAdd, Nat.reduceMul, reduceCtorEq, decide_true, decide_false, Nat.reduceLeDiff, Int.reduceNe, Int.reduceEq, ne_eq, not_false_eq_true, and_self, AMR, F67_Am148, k6, g4, rS6, rl, j0, e9, k9, gS9, rS9, upd_at, List.set_cons_zero, List.set_cons_succ, g6, wi]
    refine ih ((midB t).length - (i + 1)) _ _ (by omega) ?_
    have hnew := hgood (.o n) (refItem_one hp')
    refine ⟨i + 1, _, _, _, _, by omega, rfl, by simp [upd_at, g0], by simp [upd_at, g2], by simp [upd_at, g4], by simp [upd_at, g5], by simp [upd_at, hnx], hnew, get_set_self' _ _ _, ?_, k9.set (get_lt k9 gS9) _, by simp at n9; simp; omega, fun j hj hne => ?_⟩
    · rw [sheet_o]; exact A9.put gS9 _
    · rw [Heap.get_set_ne _ _ hne, g9 j hj, frA.get j (by omega)]; exact fX j hj hne
  · have rl : rowAt h6 bl = some [.int .i64 a, .int .i64 b', .int .i64 c', .int .i64 d, .int .i64 e] := by unfold rowAt; rw [gl]; rfl
    have j0 : aIndexAddr CC 22 (.slice (some ⟨bl, 0, some 1⟩) 5 5) (.int .i64 0) = some (.pointer (some ⟨bl, 0, none⟩)) := ix_22 bl 0 (some 1) 5 5 0 (by omega)
    have j1 : aIndexAddr CC 22 (.slice (some ⟨bl, 0, some 1⟩) 5 5) (.int .i64 1) = some (.pointer (some ⟨bl, 1, none⟩)) := ix_22 bl 0 (some 1) 5 5 1 (by omega)
    have j2 : aIndexAddr CC 22 (.slice (some ⟨bl, 0, some 1⟩) 5 5) (.int .i64 2) = some (.pointer (some ⟨bl, 2, none⟩)) := ix_22 bl 0 (some 1) 5 5 2 (by omega)
    have j3 : aIndexAddr CC 22 (.slice (some ⟨bl, 0, some 1⟩) 5 5) (.int .i64 3) = some (.pointer (some ⟨bl, 3, none⟩)) := ix_22 bl 0 (some 1) 5 5 3 (by omega)
    have j4 : aIndexAddr CC 22 (.slice (some ⟨bl, 0, some 1⟩) 5 5) (.int .i64 4) = some (.pointer (some ⟨bl, 4, none⟩)) := ix_22 bl 0 (some 1) 5 5 4 (by omega)
    have d3 : (((5 : Nat) : Int) == 1) = false := rfl
    have d4 : (((5 : Nat) : Int) == 5) = true := rfl
    have bsx : aBuildSlice CC 23 1 [(0, .agg ⟨[.int .i64 a, .int .i64 b', .int .i64 c', .int .i64 d, .int .i64 e]⟩)] = some (.new (.row [.int .i64 a, .int .i64 b', .int .i64 c', .int .i64 d, .int .i64 e] 5 true) (sliceTo 5 1 1)) := bs_23b ⟨a, b', c', d, e⟩
    have kA := k6.alloc (.row [.int .i64 a, .int .i64 b', .int .i64 c', .int .i64 d, .int .i64 e] 5 true)
    have frA := (Fr.refl k6).alloc (.row [.int .i64 a, .int .i64 b', .int .i64 c', .int .i64 d, .int .i64 e] 5 true)
    obtain ⟨v1', h9, e9, ⟨pa, pb, pc, rfl⟩, A9, k9, n9, g9, t9⟩ := (A6.fr k6 frA).addB kA (by simp; omega) (by simp) (x := .slice (some ⟨h6.next, 0, some 5⟩) 1 1) (n := ⟨a, b', c', d, e⟩) rfl (by
      show obind (rowAt _ h6.next) (fun cells => take? cells 0 (1 * 5)) = _
      rw [rowAt_new]; rfl) (by omega)
    have gSA : (h6.alloc (.row [.int .i64 a, .int .i64 b', .int .i64 c', .int .i64 d, .int .i64 e] 5 true)).get (h.next + 1) = some (.row [.slice p0 (sheetOf l).offs.length q0, .slice p1 (sheetOf l).boards.length q1, .slice p2 (sheetOf l).tars.length q2] 0 true) := by rw [get_old _ mS6]; exact gS6
    have gS9 := t9 _ _ gSA
    have rS9 : rowAt h9 (h.next + 1) = some [.slice p0 (sheetOf l).offs.length q0, .slice p1 (sheetOf l).boards.length q1, .slice p2 (sheetOf l).tars.length q2] := by unfold rowAt; rw [gS9]; rfl
    simp (maxDischargeDepth := 30) only [AMS, AMH, ↓reduceIte, Nat.reduceLT, Nat.reduceEqDiff, Nat.reduceAdd, Nat.reduceMul, reduceCtorEq, decide_true, decide_false, Nat.reduceLeDiff, Int.reduceNe, Int.reduceEq, ne_eq, not_false_eq_true, and_self, F67_Am148, k6, g4, d3, d4]
    refine W_draw [(true, 0), (true, 1), (true, 2), (true, 3), (true, 4), (true, 5), (true, 6), (true, 7), (true, 8), (true, 9), (true, 10), (true, 11), (true, 12), (true, 13), (true, 14), (true, 15), (true, 16), (true, 17), (true, 18), (true, 19), (true, 20), (true, 21), (true, 22)] (by kernel_rfl) ?_
    simp (maxDischargeDepth := 30) only [AMS, AMH, ↓reduceIte, Nat.reduceLT, Nat.reduceEqDiff, Nat.reduceAdd, Nat.reduceMul, reduceCtorEq, decide_true, decide_false, Nat.reduceLeDiff, Int.reduceNe, Int.reduceEq, ne_eq, not_false_eq_true, and_self, AMR, F67_Am148, k6, g4, rS6, rl, j0, j1, j2, j3, j4, bsx, e9, k9, gS9, rS9, upd_at, List.set_cons_zero, List.set_cons_succ, g6, wi]
    refine ih ((midB t).length - (i + 1)) _ _ (by omega) ?_
    have hnew := hgood (.b ⟨a, b', c', d, e⟩) (refItem_five hp')
    refine ⟨i + 1, _, _, _, _, by omega, rfl, by simp [upd_at, g0], by simp [upd_at, g2], by simp [upd_at, g4], by simp [upd_at, g5], by simp [upd_at, hnx], hnew, get_set_self' _ _ _, ?_, k9.set (get_lt k9 gS9) _, by simp at n9; simp; omega, fun j hj hne => ?_⟩
    · rw [sheet_b]; exact A9.put gS9 _
    · rw [Heap.get_set_ne _ _ hne, g9 j hj, frA.get j (by omega)]; exact fX j hj hne
  have hit' : refItem (w :: ws) = (refTar (w :: ws)).map .t := by
    refine refItem_tar ?_
    rcases hrest with ⟨_, _, _, _, _, _, l', hp', h1', h5'⟩ | ⟨_, _, hp'⟩
    · exact .inr ⟨l', hp', h1', h5'⟩
    · exact .inl hp'
  have htar : ∀ (f' : Nat → Value), f' 0 = .string (bs t) → f' 2 = .pointer (some ⟨h.next, 0, none⟩) → f' 4 = .pointer (some ⟨h.next + 1, 0, none⟩) → True := fun _ _ _ _ => trivial
  clear htar
  rcases hrest with ⟨p', n, c', rfl, hn1, hn5, _⟩ | ⟨v', rfl, _⟩
  · have d3 : ((n : Int) == 1) = false := by rw [Bool.eq_false_iff]; intro e; have := beq_iff_eq.1 e; omega
    have d4 : ((n : Int) == 5) = false := by rw [Bool.eq_false_iff]; intro e; have := beq_iff_eq.1 e; omega
    simp (maxDischargeDepth := 30) only [AMS, AMH, ↓reduceIte, Nat.reduceLT, Nat.reduceEqDiff, Nat.reduceAdd, Nat.reduceMul, reduceCtorEq, decide_true, decide_false, Nat.reduceLeDiff, Int.reduceNe, Int.reduceEq, ne_eq, not_false_eq_true, and_self, F67_Am148, k6, g4, d3, d4]
    refine W_call (tariff_103 k6 (by omega) q6 (by simp only [List.length_cons] at hrw ⊢; omega) hwl) ?_
    rintro _ h7 ⟨hr7, fr7⟩
    have k7 := fr7.ok
    have A7 := A6.fr k6 fr7
    have gS7 := fr7.get' k6 gS6
    have z7 := fr7.get' k6 z6
    have u7 := get_lt k7 z7
    have uS7 := get_lt k7 gS7
    have fX7 : ∀ j, j < h2.next → j ≠ h.next + 1 → h7.get j = h2.get j := fun j hj hne => by rw [fr7.get j (by omega)]; exact fX j hj hne
    have n7 := fr7.next
    rcases hr7 with ⟨x, hx, rfl⟩ | ⟨hx, x, rfl⟩
    · have ew : write? [.int .i64 0, .int .i64 0, .int .i64 0, .int .i64 0, .bool false] 0 x.cells = some x.cells := write_all _ _ rfl
      have el : x.cells.length = 5 := rfl
      have ea : allOne x.cells = true := rfl
      have tk : take? x.cells 0 5 = some x.cells := rfl
      have xs : x.cells.all selfC = true := rfl
      have bsx : aBuildSlice CC 24 1 [(0, .agg ⟨x.cells⟩)] = some (.new (.row x.cells 5 true) (sliceTo 5 1 1)) := by obtain ⟨a, b, c, d, e⟩ := x; kernel_rfl
      have frT : Fr h7 ((h7.alloc (.row [.int .i64 0, .int .i64 0, .int .i64 0, .int .i64 0, .bool false] 0 true)).set h7.next (.row x.cells 0 true)) := ((Fr.refl k7).alloc _).set (Nat.le_refl _) (by simp) _
      have rT : rowAt ((h7.alloc (.row [.int .i64 0, .int .i64 0, .int .i64 0, .int .i64 0, .bool false] 0 true)).set h7.next (.row x.cells 0 true)) h7.next = some x.cells := rowAt_set_self _ _ _ _ _
      simp (maxDischargeDepth := 30) only [AMS, AMH, ↓reduceIte, Nat.reduceLT, Nat.reduceEqDiff, Nat.reduceAdd, Nat.reduceMul, reduceCtorEq, decide_true, decide_false, Nat.reduceLeDiff, Int.reduceNe, Int.reduceEq, ne_eq, not_false_eq_true, and_self, F67_Am148, k7, ew, el, ea]
      generalize ((h7.alloc (.row [.int .i64 0, .int .i64 0, .int .i64 0, .int .i64 0, .bool false] 0 true)).set h7.next (.row x.cells 0 true)) = h8 at frT rT ⊢
      have k8 := frT.ok
      have A8 := A7.fr k7 frT
      have gS8 := frT.get' k7 gS7
      have rS8 : rowAt h8 (h.next + 1) = some [.slice p0 (sheetOf l).offs.length q0, .slice p1 (sheetOf l).boards.length q1, .slice p2 (sheetOf l).tars.length q2] := by unfold rowAt; rw [gS8]; rfl
      have kA := k8.alloc (.row x.cells 5 true)
      have frA := (Fr.refl k8).alloc (.row x.cells 5 true)
      have n8 := frT.next
      obtain ⟨v2', h9, e9, ⟨pa, pb, pc, rfl⟩, A9, k9, n9, g9, t9⟩ := (A8.fr k8 frA).addT kA (by simp; omega) (by simp) (x := .slice (some ⟨h8.next, 0, some 5⟩) 1 1) (n := x) rfl (by
        show obind (rowAt _ h8.next) (fun cells => take? cells 0 (1 * 5)) = _
        rw [rowAt_new]; rfl) (by omega)
      have gSA : (h8.alloc (.row x.cells 5 true)).get (h.next + 1) = some (.row [.slice p0 (sheetOf l).offs.length q0, .slice p1 (sheetOf l).boards.length q1, .slice p2 (sheetOf l).tars.length q2] 0 true) := by rw [get_old _ (get_lt k8 gS8)]; exact gS8
      have gS9 := t9 _ _ gSA
      simp (maxDischargeDepth := 30) only [AMS, AMH, ↓reduceIte, Nat.reduceLT, Nat.reduceEqDiff, Nat.reduceAdd, Nat.reduceMul, reduceCtorEq, decide_true, decide_false, Nat.reduceLeDiff, Int.reduceNe, Int.reduceEq, ne_eq, not_false_eq_true, and_self, F67_Am148, k8, g4, rS8, rT, tk, bsx, e9, k9, gS9, List.set_cons_zero, List.set_cons_succ, g6, wi]
      refine ih ((midB t).length - (i + 1)) _ _ (by omega) ?_
      have hnew := hgood (.t x) (by rw [hit', hx]; rfl)
      refine ⟨i + 1, _, _, _, _, by omega, rfl, by simp [upd_at, g0], by simp [upd_at, g2], by simp [upd_at, g4], by simp [upd_at, g5], by simp [upd_at, hnx], hnew, get_set_self' _ _ _, ?_, k9.set (get_lt k9 gS9) _, by simp at n9; simp; omega, fun j hj hne => ?_⟩
      · rw [sheet_t]; exact A9.put gS9 _
      · rw [Heap.get_set_ne _ _ hne, g9 j hj, frA.get j (by omega), frT.get j (by omega)]; exact fX7 j hj hne
    · have ew : write? [.int .i64 0, .int .i64 0, .int .i64 0, .int .i64 0, .bool false] 0 x.cells = some x.cells := write_all _ _ rfl
      have el : x.cells.length = 5 := rfl
      have ea : allOne x.cells = true := rfl
      have frT : Fr h7 ((h7.alloc (.row [.int .i64 0, .int .i64 0, .int .i64 0, .int .i64 0, .bool false] 0 true)).set h7.next (.row x.cells 0 true)) := ((Fr.refl k7).alloc _).set (Nat.le_refl _) (by simp) _
      simp (maxDischargeDepth := 30) only [AMS, AMH, ↓reduceIte, Nat.reduceLT, Nat.reduceEqDiff, Nat.reduceAdd, Nat.reduceMul, reduceCtorEq, decide_true, decide_false, Nat.reduceLeDiff, Int.reduceNe, Int.reduceEq, ne_eq, not_false_eq_true, and_self, F67_Am148, k7, ew, el, ea]
      generalize ((h7.alloc (.row [.int .i64 0, .int .i64 0, .int .i64 0, .int .i64 0, .bool false] 0 true)).set h7.next (.row x.cells 0 true)) = h8 at frT ⊢
      have k8 := frT.ok
      have z8 := frT.get' k7 z7
      have f8 := (F4 k7 (by omega) fX7).trans frT
      simp (maxDischargeDepth := 30) only [AMS, AMH, ↓reduceIte, Nat.reduceLT, Nat.reduceEqDiff, Nat.reduceAdd, Nat.reduceMul, reduceCtorEq, decide_true, decide_false, Nat.reduceLeDiff, Int.reduceNe, Int.reduceEq, ne_eq, not_false_eq_true, and_self, F67_Am148, k8, g2, z8]
      exact ⟨⟨_, _, _, false, S0, rfl, S0_is _, .inr ⟨rfl, hbad (by rw [hit', hx]; rfl), rfl⟩⟩, f8.set (Nat.le_refl _) (get_lt k8 z8) _⟩
  · simp (maxDischargeDepth := 30) only [AMS, AMH, ↓reduceIte, Nat.reduceLT, Nat.reduceEqDiff, Nat.reduceAdd, Nat.reduceMul, reduceCtorEq, decide_true, decide_false, Nat.reduceLeDiff, Int.reduceNe, Int.reduceEq, ne_eq, not_false_eq_true, and_self, F67_Am148, k6, g4]
    refine W_call (tariff_103 k6 (by omega) q6 (by simp only [List.length_cons] at hrw ⊢; omega) hwl) ?_
    rintro _ h7 ⟨hr7, fr7⟩
    have k7 := fr7.ok
    have A7 := A6.fr k6 fr7
    have gS7 := fr7.get' k6 gS6
    have z7 := fr7.get' k6 z6
    have u7 := get_lt k7 z7
    have uS7 := get_lt k7 gS7
    have fX7 : ∀ j, j < h2.next → j ≠ h.next + 1 → h7.get j = h2.get j := fun j hj hne => by rw [fr7.get j (by omega)]; exact fX j hj hne
    have n7 := fr7.next
    rcases hr7 with ⟨x, hx, rfl⟩ | ⟨hx, x, rfl⟩
    · have ew : write? [.int .i64 0, .int .i64 0, .int .i64 0, .int .i64 0, .bool false] 0 x.cells = some x.cells := write_all _ _ rfl
      have el : x.cells.length = 5 := rfl
      have ea : allOne x.cells = true := rfl
      have tk : take? x.cells 0 5 = some x.cells := rfl
      have xs : x.cells.all selfC = true := rfl
      have bsx : aBuildSlice CC 24 1 [(0, .agg ⟨x.cells⟩)] = some (.new (.row x.cells 5 true) (sliceTo 5 1 1)) := by obtain ⟨a, b, c, d, e⟩ := x; kernel_rfl
      have frT : Fr h7 ((h7.alloc (.row [.int .i64 0, .int .i64 0, .int .i64 0, .int .i64 0, .bool false] 0 true)).set h7.next (.row x.cells 0 true)) := ((Fr.refl k7).alloc _).set (Nat.le_refl _) (by simp) _
      have rT : rowAt ((h7.alloc (.row [.int .i64 0, .int .i64 0, .int .i64 0, .int .i64 0, .bool false] 0 true)).set h7.next (.row x.cells 0 true)) h7.next = some x.cells := rowAt_set_self _ _ _ _ _
      simp (maxDischargeDepth := 30) only [AMS, AMH, ↓reduceIte, Nat.reduceLT, Nat.reduceEqDiff, Nat.reduceAdd, Nat.reduceMul, reduceCtorEq, decide_true, decide_false, Nat.reduceLeDiff, Int.reduceNe, Int.reduceEq, ne_eq, not_false_eq_true, and_self, F67_Am148, k7, ew, el, ea]
      generalize ((h7.alloc (.row [.int .i64 0, .int .i64 0, .int .i64 0, .int .i64 0, .bool false] 0 true)).set h7.next (.row x.cells 0 true)) = h8 at frT rT ⊢
      have k8 := frT.ok
      have A8 := A7.fr k7 frT
      have gS8 := frT.get' k7 gS7
      have rS8 : rowAt h8 (h.next + 1) = some [.slice p0 (sheetOf l).offs.length q0, .slice p1 (sheetOf l).boards.length q1, .slice p2 (sheetOf l).tars.length q2] := by unfold rowAt; rw [gS8]; rfl
      have kA := k8.alloc (.row x.cells 5 true)
      have frA := (Fr.refl k8).alloc (.row x.cells 5 true)
      have n8 := frT.next
      obtain ⟨v2', h9, e9, ⟨pa, pb, pc, rfl⟩, A9, k9, n9, g9, t9⟩ := (A8.fr k8 frA).addT kA (by simp; omega) (by simp) (x := .slice (some ⟨h8.next, 0, some 5⟩) 1 1) (n := x) rfl (by
        show obind (rowAt _ h8.next) (fun cells => take? cells 0 (1 * 5)) = _
        rw [rowAt_new]; rfl) (by omega)
      have gSA : (h8.alloc (.row x.cells 5 true)).get (h.next + 1) = some (.row [.slice p0 (sheetOf l).offs.length q0, .slice p1 (sheetOf l).boards.length q1, .slice p2 (sheetOf l).tars.length q2] 0 true) := by rw [get_old _ (get_lt k8 gS8)]; exact gS8
      have gS9 := t9 _ _ gSA
      simp (maxDischargeDepth := 30) only [AMS, AMH, ↓reduceIte, Nat.reduceLT, Nat.reduceEqDiff, Nat.reduceAdd, Nat.reduceMul, reduceCtorEq, decide_true, decide_false, Nat.reduceLeDiff, Int.reduceNe, Int.reduceEq, ne_eq, not_false_eq_true, and_self, F67_Am148, k8, g4, rS8, rT, tk, bsx, e9, k9, gS9, List.set_cons_zero, List.set_cons_succ, g6, wi]
      refine ih ((midB t).length - (i + 1)) _ _ (by omega) ?_
      have hnew := hgood (.t x) (by rw [hit', hx]; rfl)
      refine ⟨i + 1, _, _, _, _, by omega, rfl, by simp [upd_at, g0], by simp [upd_at, g2], by simp [upd_at, g4], by simp [upd_at, g5], by simp [upd_at, hnx], hnew, get_set_self' _ _ _, ?_, k9.set (get_lt k9 gS9) _, by simp at n9; simp; omega, fun j hj hne => ?_⟩
      · rw [sheet_t]; exact A9.put gS9 _
      · rw [Heap.get_set_ne _ _ hne, g9 j hj, frA.get j (by omega), frT.get j (by omega)]; exact fX7 j hj hne
    · have ew : write? [.int .i64 0, .int .i64 0, .int .i64 0, .int .i64 0, .bool false] 0 x.cells = some x.cells := write_all _ _ rfl
      have el : x.cells.length = 5 := rfl
      have ea : allOne x.cells = true := rfl
      have frT : Fr h7 ((h7.alloc (.row [.int .i64 0, .int .i64 0, .int .i64 0, .int .i64 0, .bool false] 0 true)).set h7.next (.row x.cells 0 true)) := ((Fr.refl k7).alloc _).set (Nat.le_refl _) (by simp) _
      simp (maxDischargeDepth := 30) only [AMS, AMH, ↓reduceIte, Nat.reduceLT, Nat.reduceEqDiff, Nat.reduceAdd, Nat.reduceMul, reduceCtorEq, decide_true, decide_false, Nat.reduceLeDiff, Int.reduceNe, Int.reduceEq, ne_eq, not_false_eq_true, and_self, F67_Am148, k7, ew, el, ea]
      generalize ((h7.alloc (.row [.int .i64 0, .int .i64 0, .int .i64 0, .int .i64 0, .bool false] 0 true)).set h7.next (.row x.cells 0 true)) = h8 at frT ⊢
      have k8 := frT.ok
      have z8 := frT.get' k7 z7
      have f8 := (F4 k7 (by omega) fX7).trans frT
      simp (maxDischargeDepth := 30) only [AMS, AMH, ↓reduceIte, Nat.reduceLT, Nat.reduceEqDiff, Nat.reduceAdd, Nat.reduceMul, reduceCtorEq, decide_true, decide_false, Nat.reduceLeDiff, Int.reduceNe, Int.reduceEq, ne_eq, not_false_eq_true, and_self, F67_Am148, k8, g2, z8]
      exact ⟨⟨_, _, _, false, S0, rfl, S0_is _, .inr ⟨rfl, hbad (by rw [hit', hx]; rfl), rfl⟩⟩, f8.set (Nat.le_refl _) (get_lt k8 z8) _⟩
end Go.Am
