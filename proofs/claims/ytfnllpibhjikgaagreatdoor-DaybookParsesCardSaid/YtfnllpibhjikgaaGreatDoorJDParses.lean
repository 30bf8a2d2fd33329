/- DaybookParses on the machine: which entry a string is the line of, or the error; what is read is written the same. -/
import Derived.Test.YtfnllpibhjikgaaGreatDoorJP10
set_option linter.unusedSimpArgs false
set_option linter.unusedVariables false
namespace Go.Am
open Go Go.Proofs
theorem F4_DParses : type_of% (And.intro @bld_25 <| And.intro @fld_25_0 <| And.intro @fld_25_1 <| And.intro @ld_25 <| And.intro @len_9 <| And.intro @size_25 <| And.intro @sp_25_0 <| And.intro @sp_25_1 @zero_25) := And.intro @bld_25 <| And.intro @fld_25_0 <| And.intro @fld_25_1 <| And.intro @ld_25 <| And.intro @len_9 <| And.intro @size_25 <| And.intro @sp_25_0 <| And.intro @sp_25_1 @zero_25

theorem known_cp (h : Heap) : callF CC (Lim CC) 6 [] h = some (.ret (.bool true) h none) := by
  unfold callF
  rw [show CC.A 6 = some knownSpec by kernel_rfl]
  rfl
theorem known_wp (h : Heap) : CW CC 6 [] h fun r h' => r = .bool true ∧ h' = h := ⟨_, _, known_cp h, rfl, rfl⟩

theorem glue_cut (c : UInt8) : ∀ s : Bs, glue c (cutAt c s) = s
  | [] => rfl
  | b :: l => by
    have ih := glue_cut c l
    have hp := cut_pos c l
    unfold cutAt
    cases e : cutAt c l with
    | nil => rw [e] at hp; simp at hp
    | cons w r =>
      rw [e] at ih
      split
      · rename_i hb
        rw [glue_cons, ih, hb]; rfl
      · show glue c ((b :: w) :: r) = b :: l
        cases r with
        | nil => rw [glue_one] at ih ⊢; rw [ih]
        | cons v r => rw [glue_cons] at ih ⊢; rw [← ih]; rfl
theorem vals_back : ∀ {ws : List Bs}, ws.all numB = true → (vals ws).map dec = ws
  | [], _ => rfl
  | x :: r, h => by
    rw [List.all_cons, Bool.and_eq_true] at h
    have i := vals_back h.2
    unfold vals at i ⊢
    rw [List.map_cons, List.map_cons, i, (num_dig h.1).2.2.2]
/-- what is read is written the same -/
theorem entry_line {t : Bs} {k : Int} {l : List Int} (h : entryB t = some (k, l)) : formed k l = true ∧ lineB k l = t := by
  have hp := cut_pos 32 t
  obtain ⟨w, ws, e⟩ : ∃ w ws, cutAt 32 t = w :: ws := by
    cases e : cutAt 32 t with
    | nil => rw [e] at hp; simp at hp
    | cons w ws => exact ⟨w, ws, rfl⟩
  have ep : partedB t = if pos w wordL 0 = -1 then none else if ws.all numB = true then some (pos w wordL 0, vals ws) else none := by unfold partedB; rw [e]
  unfold entryB at h
  rw [ep] at h
  by_cases h1 : pos w wordL 0 = -1
  · rw [if_pos h1] at h; cases h
  rw [if_neg h1] at h
  cases ha : ws.all numB with
  | false => rw [ha] at h; cases h
  | true =>
    rw [ha, if_pos rfl] at h
    have h : (if pos w wordL 0 ≤ 12 ∧ formed (1 + pos w wordL 0) (vals ws) = true then some (1 + pos w wordL 0, vals ws) else none) = some (k, l) := h
    split at h
    · rename_i hq
      cases h
      refine ⟨hq.2, ?_⟩
      have hf' := of_decide_eq_true (formed_ok hq.2).1
      obtain ⟨i, hi⟩ : ∃ i : Nat, pos w wordL 0 = (i : Int) := ⟨(pos w wordL 0).toNat, by omega⟩
      have gw := pos_get (x := w) (l := wordL) (k := 0) (i := i) (by rw [hi]; simp)
      have hw : wordK (1 + pos w wordL 0) = w := by
        unfold wordK
        rw [show (1 + pos w wordL 0 - 1).toNat = i by omega, List.getD_eq_getElem?_getD, gw]; rfl
      unfold lineB
      rw [hw, vals_back ha, ← e, glue_cut]
    · cases h

set_option maxRecDepth 10000 in
set_option maxHeartbeats 2000000 in
theorem parses_law {t : Bs} {h : Heap} (hk : HOK h) (hp : 0 < h.next) : CW CC 4 [.string (bs t)] h fun r h' => r = .bool true ∧ Fr h h' := by
  refine CW_in Tryz.f4 (by kernel_rfl) (by kernel_rfl) rfl rfl ?_
  simp only [Tryz.f4, bs_mk]
  by_cases h100 : 100 < t.length
  · have d : decide ((((bs t).data.toList.length : Nat) : Int) > 100) = true := by show decide ((t.length : Int) > 100) = true; exact decide_eq_true (by omega)
    simp (maxDischargeDepth := 30) only [AMS, AMH, ↓reduceIte, Nat.reduceLT, Nat.reduceEqDiff, Nat.reduceAdd, Nat.reduceMul, reduceCtorEq, decide_true, decide_false, Nat.reduceLeDiff, Int.reduceNe, Int.reduceEq, ne_eq, not_false_eq_true, and_self, F4_DParses, hk, d]
    refine W_call (known_wp _) ?_
    rintro _ _ ⟨rfl, rfl⟩
    simp (maxDischargeDepth := 30) only [AMS, AMH, ↓reduceIte, Nat.reduceLT, Nat.reduceEqDiff, Nat.reduceAdd, Nat.reduceMul, reduceCtorEq, decide_true, decide_false, Nat.reduceLeDiff, Int.reduceNe, Int.reduceEq, ne_eq, not_false_eq_true, and_self, F4_DParses, hk]
    exact ⟨by first | rfl | trivial, Fr.refl hk⟩
  have d : decide ((((bs t).data.toList.length : Nat) : Int) > 100) = false := by show decide ((t.length : Int) > 100) = false; exact decide_eq_false (by omega)
  simp (maxDischargeDepth := 30) only [AMS, AMH, ↓reduceIte, Nat.reduceLT, Nat.reduceEqDiff, Nat.reduceAdd, Nat.reduceMul, reduceCtorEq, decide_true, decide_false, Nat.reduceLeDiff, Int.reduceNe, Int.reduceEq, ne_eq, not_false_eq_true, and_self, F4_DParses, hk, d]
  refine W_call (parse_p hk hp (by omega)) ?_
  rintro _ h1 ⟨v, rfl, lv, f1⟩
  have k1 := f1.ok
  obtain ⟨pv, cv, rfl, _⟩ := lv.open
  have fa := ((Fr.refl k1).alloc (.row [.int .i64 0, .slice none 0 0] 0 true)).set (Nat.le_refl _) (by simp) (.row [.int .i64 (parseL t).1.1, .slice pv (parseL t).1.2.length cv] 0 true)
  have ra : rowAt ((h1.alloc (.row [.int .i64 0, .slice none 0 0] 0 true)).set h1.next (.row [.int .i64 (parseL t).1.1, .slice pv (parseL t).1.2.length cv] 0 true)) h1.next = some [.int .i64 (parseL t).1.1, .slice pv (parseL t).1.2.length cv] := rowAt_set_self _ _ _ _ _
  have la := lv.fr k1 fa
  simp (maxDischargeDepth := 30) only [AMS, AMH, ↓reduceIte, Nat.reduceLT, Nat.reduceEqDiff, Nat.reduceAdd, Nat.reduceMul, reduceCtorEq, decide_true, decide_false, Nat.reduceLeDiff, Int.reduceNe, Int.reduceEq, ne_eq, not_false_eq_true, and_self, F4_DParses, k1, List.set_cons_zero]
  generalize ((h1.alloc (.row [.int .i64 0, .slice none 0 0] 0 true)).set h1.next (.row [.int .i64 (parseL t).1.1, .slice pv (parseL t).1.2.length cv] 0 true)) = h2 at fa ra la ⊢
  have f2 := f1.trans fa
  have k2 := f2.ok
  refine W_call (Parse_r (t := t) k2 (by have := f2.next; omega) (by omega)) ?_
  rintro R h3 ⟨hR, fr3⟩
  have f3 := f2.trans fr3
  have k3 := f3.ok
  have r3 := fr3.row' k2 ra
  have l3 := la.fr k2 fr3
  obtain ⟨k, l, u, b, rfl, lu, hcase⟩ : ∃ k l u b, R = .tuple ⟨[.agg ⟨[.int .i64 k, u]⟩, .bool b]⟩ ∧ LS h3 u l ints 1 ∧ ((b = true ∧ entryB t = some (k, l)) ∨ (b = false ∧ entryB t = none)) := by
    rcases hR with ⟨k, l, v, he, rfl, lv⟩ | ⟨he, rfl⟩
    · exact ⟨k, l, v, true, rfl, lv, .inl ⟨rfl, he⟩⟩
    · exact ⟨0, [], _, false, rfl, .inl ⟨rfl, _, _, rfl⟩, .inr ⟨rfl, he⟩⟩
  clear hR
  obtain ⟨pu, cu, rfl, _⟩ := lu.open
  have fb := ((Fr.refl k3).alloc (.row [.int .i64 0, .slice none 0 0] 0 true)).set (Nat.le_refl _) (by simp) (.row [.int .i64 k, .slice pu l.length cu] 0 true)
  have rb : rowAt ((h3.alloc (.row [.int .i64 0, .slice none 0 0] 0 true)).set h3.next (.row [.int .i64 k, .slice pu l.length cu] 0 true)) h3.next = some [.int .i64 k, .slice pu l.length cu] := rowAt_set_self _ _ _ _ _
  have r4 := fb.row' k3 r3
  have l4 := l3.fr k3 fb
  have lb := lu.fr k3 fb
  simp (maxDischargeDepth := 30) only [AMS, AMH, ↓reduceIte, Nat.reduceLT, Nat.reduceEqDiff, Nat.reduceAdd, Nat.reduceMul, reduceCtorEq, decide_true, decide_false, Nat.reduceLeDiff, Int.reduceNe, Int.reduceEq, ne_eq, not_false_eq_true, and_self, F4_DParses, k3, List.set_cons_zero]
  generalize ((h3.alloc (.row [.int .i64 0, .slice none 0 0] 0 true)).set h3.next (.row [.int .i64 k, .slice pu l.length cu] 0 true)) = h4 at fb rb r4 l4 lb ⊢
  have f4 := f3.trans fb
  have k4 := f4.ok
  have nl : ∀ h', LS h' (.slice none 0 0) ([] : List Int) ints 1 := fun h' => .inl ⟨rfl, _, _, rfl⟩
  by_cases h40 : 40 < t.length
  · have d : decide ((((bs t).data.toList.length : Nat) : Int) > 40) = true := by show decide ((t.length : Int) > 40) = true; exact decide_eq_true (by omega)
    have e : parseL t = ((0, []), 3) := by unfold parseL; rw [if_pos h40]
    rw [e] at r4 l4
    have e3 : ((3 : Int) != 0) = true := rfl
    have e33 : ((3 : Int) == 3) = true := rfl
    simp (maxDischargeDepth := 30) only [AMS, AMH, ↓reduceIte, Nat.reduceLT, Nat.reduceEqDiff, Nat.reduceAdd, Nat.reduceMul, reduceCtorEq, decide_true, decide_false, Nat.reduceLeDiff, Int.reduceNe, Int.reduceEq, ne_eq, not_false_eq_true, and_self, F4_DParses, k4, d, e, e3, e33, r4, bldE_n]
    refine W_call (sameE_r k4 (l := []) (m := []) l4 (nl _) (by simp) (by simp)) ?_
    rintro _ h5 ⟨rfl, f5⟩
    have ds : decide ((0 : Int) = 0 ∧ ([] : List Int) = []) = true := decide_eq_true ⟨rfl, rfl⟩
    simp (maxDischargeDepth := 30) only [AMS, AMH, ↓reduceIte, Nat.reduceLT, Nat.reduceEqDiff, Nat.reduceAdd, Nat.reduceMul, reduceCtorEq, decide_true, decide_false, Nat.reduceLeDiff, Int.reduceNe, Int.reduceEq, ne_eq, not_false_eq_true, and_self, F4_DParses, f5.ok, ds]
    refine W_call (known_wp _) ?_
    rintro _ _ ⟨rfl, rfl⟩
    simp (maxDischargeDepth := 30) only [AMS, AMH, ↓reduceIte, Nat.reduceLT, Nat.reduceEqDiff, Nat.reduceAdd, Nat.reduceMul, reduceCtorEq, decide_true, decide_false, Nat.reduceLeDiff, Int.reduceNe, Int.reduceEq, ne_eq, not_false_eq_true, and_self, F4_DParses, f5.ok]
    exact ⟨by first | rfl | trivial, f4.trans f5⟩
  have d : decide ((((bs t).data.toList.length : Nat) : Int) > 40) = false := by show decide ((t.length : Int) > 40) = false; exact decide_eq_false (by omega)
  rcases hcase with ⟨rfl, he⟩ | ⟨rfl, he⟩
  rotate_left
  · have e : parseL t = ((0, []), 4) := by unfold parseL; rw [if_neg h40, he]
    rw [e] at r4 l4
    have e3 : ((4 : Int) != 0) = true := rfl
    have e33 : ((4 : Int) == 4) = true := rfl
    simp (maxDischargeDepth := 30) only [AMS, AMH, ↓reduceIte, Nat.reduceLT, Nat.reduceEqDiff, Nat.reduceAdd, Nat.reduceMul, reduceCtorEq, decide_true, decide_false, Nat.reduceLeDiff, Int.reduceNe, Int.reduceEq, ne_eq, not_false_eq_true, and_self, F4_DParses, k4, d, e, e3, e33, r4, bldE_n]
    refine W_call (sameE_r k4 (l := []) (m := []) l4 (nl _) (by simp) (by simp)) ?_
    rintro _ h5 ⟨rfl, f5⟩
    have ds : decide ((0 : Int) = 0 ∧ ([] : List Int) = []) = true := decide_eq_true ⟨rfl, rfl⟩
    simp (maxDischargeDepth := 30) only [AMS, AMH, ↓reduceIte, Nat.reduceLT, Nat.reduceEqDiff, Nat.reduceAdd, Nat.reduceMul, reduceCtorEq, decide_true, decide_false, Nat.reduceLeDiff, Int.reduceNe, Int.reduceEq, ne_eq, not_false_eq_true, and_self, F4_DParses, f5.ok, ds]
    refine W_call (known_wp _) ?_
    rintro _ _ ⟨rfl, rfl⟩
    simp (maxDischargeDepth := 30) only [AMS, AMH, ↓reduceIte, Nat.reduceLT, Nat.reduceEqDiff, Nat.reduceAdd, Nat.reduceMul, reduceCtorEq, decide_true, decide_false, Nat.reduceLeDiff, Int.reduceNe, Int.reduceEq, ne_eq, not_false_eq_true, and_self, F4_DParses, f5.ok]
    exact ⟨by first | rfl | trivial, f4.trans f5⟩
  have e : parseL t = ((k, l), 0) := by unfold parseL; rw [if_neg h40, he]
  rw [e] at r4 l4
  have l4 : LS h4 (.slice pv l.length cv) l ints 1 := l4
  have r4 : rowAt h4 h1.next = some [.int .i64 k, .slice pv l.length cv] := r4
  obtain ⟨hfo, hline⟩ := entry_line he
  have hl5 := (formed_ok hfo).2.2
  have ew : writeB k l = (t, 0) := by unfold writeB; rw [if_pos hfo, hline]
  have e3 : ((0 : Int) != 0) = false := rfl
  have e0 : ((0 : Int) == 0) = true := rfl
  simp (maxDischargeDepth := 30) only [AMS, AMH, ↓reduceIte, Nat.reduceLT, Nat.reduceEqDiff, Nat.reduceAdd, Nat.reduceMul, reduceCtorEq, decide_true, decide_false, Nat.reduceLeDiff, Int.reduceNe, Int.reduceEq, ne_eq, not_false_eq_true, and_self, F4_DParses, k4, d, e, e3, e0, r4, rb]
  refine W_call (write_p k4 (by have := f4.next; omega) l4 (by omega)) ?_
  rw [ew]
  rintro _ h5 ⟨rfl, fr5⟩
  have f5 := f4.trans fr5
  have k5 := f5.ok
  have r5 := fr5.row' k4 r4
  have s5 := fr5.row' k4 rb
  simp (maxDischargeDepth := 30) only [AMS, AMH, ↓reduceIte, Nat.reduceLT, Nat.reduceEqDiff, Nat.reduceAdd, Nat.reduceMul, reduceCtorEq, decide_true, decide_false, Nat.reduceLeDiff, Int.reduceNe, Int.reduceEq, ne_eq, not_false_eq_true, and_self, F4_DParses, k5, e3, e0, r5, s5]
  refine W_call (sameE_r k5 (l4.fr k4 fr5) (lb.fr k4 fr5) (by omega) (by omega)) ?_
  rintro _ h6 ⟨rfl, fr6⟩
  have f6 := f5.trans fr6
  have ds : decide (k = k ∧ l = l) = true := decide_eq_true ⟨rfl, rfl⟩
  have dt : decide (t = t) = true := decide_eq_true rfl
  simp (maxDischargeDepth := 30) only [AMS, AMH, ↓reduceIte, Nat.reduceLT, Nat.reduceEqDiff, Nat.reduceAdd, Nat.reduceMul, reduceCtorEq, decide_true, decide_false, Nat.reduceLeDiff, Int.reduceNe, Int.reduceEq, ne_eq, not_false_eq_true, and_self, F4_DParses, f6.ok, ds, e0, s_eq, dt]
  refine W_call (known_wp _) ?_
  rintro _ _ ⟨rfl, rfl⟩
  simp (maxDischargeDepth := 30) only [AMS, AMH, ↓reduceIte, Nat.reduceLT, Nat.reduceEqDiff, Nat.reduceAdd, Nat.reduceMul, reduceCtorEq, decide_true, decide_false, Nat.reduceLeDiff, Int.reduceNe, Int.reduceEq, ne_eq, not_false_eq_true, and_self, F4_DParses, f6.ok]
  exact ⟨by first | rfl | trivial, f6⟩
theorem parses_4 {h : Heap} (hk : HOK h) (hp : 0 < h.next) (t : Bs) : CW CC 4 [.string (bs t)] h fun r h' => r = .bool true ∧ Fr h h' := parses_law hk hp
end Go.Am
