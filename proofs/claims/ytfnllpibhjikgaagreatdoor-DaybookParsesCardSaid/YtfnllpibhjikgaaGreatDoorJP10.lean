/- The abstract machine over this program: the entry of a line, of the specification. -/
import Derived.Test.YtfnllpibhjikgaaGreatDoorJP8
set_option linter.unusedSimpArgs false
set_option linter.unusedVariables false
namespace Go.Am
open Go Go.Proofs
theorem F12_P10 : type_of% (And.intro @bld_25 <| And.intro @fld_25_0 <| And.intro @fld_25_1 <| And.intro @fv_44_0 <| And.intro @fv_44_1 <| And.intro @ix_87 <| And.intro @ld_25 <| And.intro @ld_9 <| And.intro @len_23 <| And.intro @part_9 <| And.intro @size_25 <| And.intro @size_87 <| And.intro @size_9 <| And.intro @sp_25_0 <| And.intro @sp_25_1 <| And.intro @und_87 <| And.intro @zero_25 @zero_87) := And.intro @bld_25 <| And.intro @fld_25_0 <| And.intro @fld_25_1 <| And.intro @fv_44_0 <| And.intro @fv_44_1 <| And.intro @ix_87 <| And.intro @ld_25 <| And.intro @ld_9 <| And.intro @len_23 <| And.intro @part_9 <| And.intro @size_25 <| And.intro @size_87 <| And.intro @size_9 <| And.intro @sp_25_0 <| And.intro @sp_25_1 <| And.intro @und_87 <| And.intro @zero_25 @zero_87
theorem F29_P10 : type_of% (And.intro @ix_23 <| And.intro @ld_3 <| And.intro @len_23 <| And.intro @part_3 <| And.intro @size_23 <| And.intro @size_3 <| And.intro @und_23 @zero_23) := And.intro @ix_23 <| And.intro @ld_3 <| And.intro @len_23 <| And.intro @part_3 <| And.intro @size_23 <| And.intro @size_3 <| And.intro @und_23 @zero_23
theorem F59_P10 : type_of% (And.intro @bs_23 <| And.intro @ix_23 <| And.intro @ix_87 <| And.intro @ld_9 <| And.intro @len_87 <| And.intro @part_3 <| And.intro @part_9 <| And.intro @size_23 <| And.intro @size_3 <| And.intro @size_87 <| And.intro @size_9 <| And.intro @und_23 <| And.intro @und_87 <| And.intro @zero_23 @zero_87) := And.intro @bs_23 <| And.intro @ix_23 <| And.intro @ix_87 <| And.intro @ld_9 <| And.intro @len_87 <| And.intro @part_3 <| And.intro @part_9 <| And.intro @size_23 <| And.intro @size_3 <| And.intro @size_87 <| And.intro @size_9 <| And.intro @und_23 <| And.intro @und_87 <| And.intro @zero_23 @zero_87

theorem plain_good : ∀ {ws : List Bs}, ws.all numB = true → numsZ ws = some (vals ws) ∧ (vals ws).all (fun n => decide (0 ≤ n)) = true
  | [], _ => ⟨rfl, rfl⟩
  | x :: r, h => by
    simp only [List.all_cons, Bool.and_eq_true] at h
    obtain ⟨i1, i2⟩ := plain_good h.2
    refine ⟨?_, ?_⟩
    · unfold numsZ
      rw [numZ_of h.1, i1]
      rfl
    · unfold vals at i2 ⊢
      rw [List.map_cons, List.all_cons, i2]
      simp
theorem plain_bad : ∀ {ws : List Bs} {l : List Int}, numsZ ws = some l → l.all (fun n => decide (0 ≤ n)) = true → ws.all numB = true
  | [], _, _, _ => rfl
  | x :: r, l, h, hl => by
    unfold numsZ at h
    cases h1 : numZ x with
    | none => rw [h1] at h; cases h
    | some n =>
      rw [h1] at h
      cases h2 : numsZ r with
      | none => rw [h2] at h; cases h
      | some m =>
        rw [h2] at h
        cases h
        simp only [List.all_cons, Bool.and_eq_true, decide_eq_true_eq] at hl
        rw [List.all_cons, (numZ_pos h1 hl.1).1, plain_bad h2 hl.2]; rfl
theorem numsZ_app : ∀ (a b : List Bs), numsZ (a ++ b) = match numsZ a with | none => none | some l => match numsZ b with | none => none | some m => some (l ++ m)
  | [], b => by
    show numsZ b = match numsZ b with | none => none | some m => some ([] ++ m)
    cases numsZ b <;> rfl
  | x :: a, b => by
    show (match numZ x with | none => none | some n => match numsZ (a ++ b) with | none => none | some l => some (n :: l)) = _
    rw [numsZ_app a b]
    show _ = match (match numZ x with | none => none | some n => match numsZ a with | none => none | some l => some (n :: l)) with | none => none | some l => match numsZ b with | none => none | some m => some (l ++ m)
    cases numZ x with
    | none => rfl
    | some n =>
      cases numsZ a with
      | none => rfl
      | some l => cases numsZ b <;> rfl
theorem numsZ_snoc {ws : List Bs} {i : Nat} {x : Bs} {l : List Int} {n : Int} (h : ws[i]? = some x) (hl : numsZ (ws.take i) = some l) (hx : numZ x = some n) : numsZ (ws.take (i + 1)) = some (l ++ [n]) := by
  obtain ⟨hk, e⟩ := List.getElem?_eq_some_iff.1 h
  rw [List.take_succ_eq_append_getElem hk, e, numsZ_app, hl]
  show (match (match numZ x with | none => none | some n => some [n]) with | none => none | some m => some (l ++ m)) = _
  rw [hx]
theorem numsZ_bad : ∀ {ws : List Bs} {i : Nat} {x : Bs}, ws[i]? = some x → numZ x = none → numsZ ws = none
  | [], _, _, h, _ => by simp at h
  | a :: ws, 0, x, h, hx => by
    have : a = x := by simpa using h
    subst this
    unfold numsZ
    rw [hx]
  | a :: ws, i + 1, x, h, hx => by
    have ih := numsZ_bad (ws := ws) (i := i) (by simpa using h) hx
    unfold numsZ
    rw [ih]
    cases numZ a <;> rfl
theorem numsZ_len : ∀ {ws : List Bs} {l : List Int}, numsZ ws = some l → l.length = ws.length
  | [], l, h => by
    have : l = [] := by simpa [numsZ] using h.symm
    subst this; rfl
  | r :: rs, l, h => by
    unfold numsZ at h
    cases h1 : numZ r with
    | none => rw [h1] at h; cases h
    | some it =>
      rw [h1] at h
      cases h2 : numsZ rs with
      | none => rw [h2] at h; cases h
      | some its => rw [h2] at h; cases h; simp [numsZ_len h2]
set_option maxRecDepth 10000 in
set_option maxHeartbeats 1000000 in
theorem numbers_134 {v : Value} {ws : List Bs} {h : Heap} (hk : HOK h) (hp : 0 < h.next) (hv : LS h v ws strC 1) (hl : ws.length ≤ 1000) (hw : ∀ w ∈ ws, w.length ≤ 100000) :
    CW CC 59 [v, .int .i64 4] h fun r h' => ((∃ l v', numsZ ws = some l ∧ r = .tuple ⟨[v', .bool true]⟩ ∧ SL h.next h' v' (l.flatMap ints) 1 l.length) ∨ (numsZ ws = none ∧ r = .tuple ⟨[.slice none 0 0, .bool false]⟩)) ∧ Fr h h' := by
  obtain ⟨p, c, rfl, hx⟩ := hv.open
  refine CW_in Tryz.f59 (by kernel_rfl) (by kernel_rfl) rfl rfl ?_
  simp only [Tryz.f59]
  simp (maxDischargeDepth := 30) only [AMS, AMH, ↓reduceIte, Nat.reduceLT, Nat.reduceEqDiff, Nat.reduceAdd, Nat.reduceMul, reduceCtorEq, decide_true, decide_false, Nat.reduceLeDiff, Int.reduceNe, Int.reduceEq, ne_eq, not_false_eq_true, and_self, F59_P10, hk]
  refine W_loop ws.length (fun m f h' => ∃ i l, i ≤ ws.length ∧ m = ws.length - i ∧ f 0 = .slice p ws.length c ∧ f 1 = .int .i64 4 ∧ f 7 = .int .i64 i ∧ numsZ (ws.take i) = some l ∧ SL h.next h' (f 6) (l.flatMap ints) 1 l.length ∧ Fr h h')
    ⟨0, [], by omega, by omega, by simp [upd_at, argsFn_at], by simp [upd_at, argsFn_at], by simp [upd_at], by simp [numsZ], by simpa [upd_at] using SL.nil h.next h 1, Fr.refl hk⟩ ?_
  rintro m f h1 ⟨i, l, hi, rfl, g0, g1, g7, hnl, q6, f1⟩ ih
  have k1 := f1.ok
  have hll := numsZ_len hnl
  have hll' : l.length ≤ 1000 := by rw [hll]; simp; omega
  by_cases hil : i < ws.length
  · obtain ⟨w, gw⟩ : ∃ w, ws[i]? = some w := ⟨_, List.getElem?_eq_getElem hil⟩
    rcases hx with hx | ⟨b, o, sp, row, rfl, hr, hx⟩
    · rw [hx] at hil; simp at hil
    have hcell : row[o + i]? = some (.string (bs w)) := by
      have := (hx _ _ gw).2 0 (by omega)
      simpa [strC] using this
    have hr1 := f1.row' hk hr
    simp (maxDischargeDepth := 30) only [AMS, AMH, ↓reduceIte, Nat.reduceLT, Nat.reduceEqDiff, Nat.reduceAdd, Nat.reduceMul, reduceCtorEq, decide_true, decide_false, Nat.reduceLeDiff, Int.reduceNe, Int.reduceEq, ne_eq, not_false_eq_true, and_self, F59_P10, k1, g0, g1, g7, lt_t hil, hil, Nat.mul_one, hr1, hcell]
    refine W_call (number_150 k1 (hw w (List.mem_of_getElem? gw))) ?_
    rintro _ h2 ⟨⟨n, bb, rfl, hn⟩, fr2⟩
    have f2 := f1.trans fr2
    cases bb with
    | false =>
      simp (maxDischargeDepth := 30) only [AMS, AMH, ↓reduceIte, Nat.reduceLT, Nat.reduceEqDiff, Nat.reduceAdd, Nat.reduceMul, reduceCtorEq, decide_true, decide_false, Nat.reduceLeDiff, Int.reduceNe, Int.reduceEq, ne_eq, not_false_eq_true, and_self, F59_P10, f2.ok]
      exact ⟨.inr ⟨numsZ_bad gw (by simpa using hn), by first | rfl | trivial⟩, f2⟩
    | true =>
      have q2 := q6.fr k1 fr2
      obtain ⟨h3, e3, q3, f3, n3, _⟩ := append_one (ts := []) app_23 f2 (by have := f2.next; omega) q2 (v := .int .i64 n) rfl (by omega)
      simp (maxDischargeDepth := 30) only [AMS, AMH, ↓reduceIte, Nat.reduceLT, Nat.reduceEqDiff, Nat.reduceAdd, Nat.reduceMul, reduceCtorEq, decide_true, decide_false, Nat.reduceLeDiff, Int.reduceNe, Int.reduceEq, ne_eq, not_false_eq_true, and_self, F59_P10, f2.ok, e3, f3.ok, g7, i_next hil hl]
      refine ih (ws.length - (i + 1)) _ _ (by omega) ?_
      refine ⟨i + 1, l ++ [n], by omega, rfl, by simp [upd_at, g0], by simp [upd_at, g1], by simp [upd_at], numsZ_snoc gw hnl (by simpa using hn), ?_, f3⟩
      simpa [upd_at, ints] using q3
  · have : i = ws.length := by omega
    subst this
    rw [List.take_length] at hnl
    simp (maxDischargeDepth := 30) only [AMS, AMH, ↓reduceIte, Nat.reduceLT, Nat.reduceEqDiff, Nat.reduceAdd, Nat.reduceMul, reduceCtorEq, decide_true, decide_false, Nat.reduceLeDiff, Int.reduceNe, Int.reduceEq, ne_eq, not_false_eq_true, and_self, F59_P10, k1, g0, g1, g7, lt_f]
    exact ⟨.inl ⟨l, _, hnl, by first | rfl | trivial, q6⟩, f1⟩

theorem all_snocI {l : List Int} {i : Nat} {x : Int} (h : l[i]? = some x) (p : Int → Bool) : (l.take (i + 1)).all p = ((l.take i).all p && p x) := by
  obtain ⟨hk, e⟩ := List.getElem?_eq_some_iff.1 h
  rw [List.take_succ_eq_append_getElem hk, e, List.all_append]; simp
theorem vals_numK : ∀ {ws : List Bs}, ws.all numB = true → (vals ws).all numK = true
  | [], _ => rfl
  | x :: r, h => by
    rw [List.all_cons, Bool.and_eq_true] at h
    have i := vals_numK h.2
    unfold vals at i ⊢
    rw [List.map_cons, List.all_cons, i, Bool.and_true]
    exact decide_eq_true (num_ok h.1)
theorem nums_iff {ws : List Bs} {l : List Int} (h : numsZ ws = some l) : l.all numK = ws.all numB ∧ (ws.all numB = true → l = vals ws) := by
  have hv : ws.all numB = true → l = vals ws := fun hb => by
    have := (plain_good hb).1
    rw [h] at this; exact Option.some.inj this
  refine ⟨?_, hv⟩
  cases hb : ws.all numB with
  | true => rw [hv hb]; exact vals_numK hb
  | false =>
    cases hl : l.all numK with
    | false => rfl
    | true =>
      have : l.all (fun n => decide (0 ≤ n)) = true := by
        rw [List.all_eq_true] at hl ⊢
        intro n hn
        have := of_decide_eq_true (hl n hn)
        exact decide_eq_true this.1
      rw [plain_bad h this] at hb; cases hb
theorem nums_none {ws : List Bs} (h : numsZ ws = none) : ws.all numB = false := by
  cases hb : ws.all numB with
  | false => rfl
  | true => rw [(plain_good hb).1] at h; cases h

set_option maxRecDepth 10000 in
set_option maxHeartbeats 1000000 in
theorem numbered_r {v : Value} {ws : List Bs} {h : Heap} (hk : HOK h) (hp : 0 < h.next) (hv : LS h v ws strC 1) (hl : ws.length ≤ 1000) (hw : ∀ w ∈ ws, w.length ≤ 100000) :
    CW CC 29 [v] h fun r h' => (∃ b l v', b = ws.all numB ∧ r = .tuple ⟨[v', .bool b]⟩ ∧ SL h.next h' v' (l.flatMap ints) 1 l.length ∧ l.length ≤ 1000 ∧ (b = true → l = vals ws)) ∧ Fr h h' := by
  obtain ⟨p, c, rfl, _⟩ := hv.open
  refine CW_in Tryz.f29 (by kernel_rfl) (by kernel_rfl) rfl rfl ?_
  simp only [Tryz.f29]
  simp (maxDischargeDepth := 30) only [AMS, AMH, ↓reduceIte, Nat.reduceLT, Nat.reduceEqDiff, Nat.reduceAdd, Nat.reduceMul, reduceCtorEq, decide_true, decide_false, Nat.reduceLeDiff, Int.reduceNe, Int.reduceEq, ne_eq, not_false_eq_true, and_self, F29_P10, hk]
  refine W_call (numbers_134 hk hp hv hl hw) ?_
  rintro R h1 ⟨hc, f1⟩
  have k1 := f1.ok
  obtain ⟨b0, l, v', rfl, q, hll, he⟩ : ∃ b0 l v', R = .tuple ⟨[v', .bool b0]⟩ ∧ SL h.next h1 v' (l.flatMap ints) 1 l.length ∧ l.length ≤ 1000 ∧ ((b0 && l.all numK) = ws.all numB ∧ (ws.all numB = true → l = vals ws)) := by
    rcases hc with ⟨l, v', hn, rfl, q⟩ | ⟨hn, rfl⟩
    · exact ⟨true, l, v', rfl, q, by rw [numsZ_len hn]; exact hl, by rw [Bool.true_and]; exact (nums_iff hn).1, (nums_iff hn).2⟩
    · exact ⟨false, [], _, rfl, SL.nil _ _ _, by simp, by rw [nums_none hn]; rfl, fun hb => by rw [nums_none hn] at hb; cases hb⟩
  clear hc
  obtain ⟨p', c', e'⟩ := q.value
  subst e'
  have hlv : LS h1 (.slice p' l.length c') l ints 1 := SL.ls ints_len q
  obtain ⟨pp, cc, ee, hx⟩ := hlv.open
  simp only [Value.slice.injEq] at ee
  obtain ⟨rfl, _, rfl⟩ := ee
  simp (maxDischargeDepth := 30) only [AMS, AMH, ↓reduceIte, Nat.reduceLT, Nat.reduceEqDiff, Nat.reduceAdd, Nat.reduceMul, reduceCtorEq, decide_true, decide_false, Nat.reduceLeDiff, Int.reduceNe, Int.reduceEq, ne_eq, not_false_eq_true, and_self, F29_P10, k1]
  refine W_loop l.length (fun m f h' => ∃ i, i ≤ l.length ∧ m = l.length - i ∧ f 4 = .slice p' l.length c' ∧ f 6 = .int .i64 i ∧ f 5 = .bool (b0 && (l.take i).all numK) ∧ h' = h1)
    ⟨0, by omega, by omega, by simp [upd_at], by simp [upd_at], by simp [upd_at], rfl⟩ ?_
  rintro m f h2 ⟨i, hi, rfl, g4, g6, g5, rfl⟩ ih
  by_cases hil : i < l.length
  · obtain ⟨x, gx⟩ : ∃ w, l[i]? = some w := ⟨_, List.getElem?_eq_getElem hil⟩
    rcases hx with hx | ⟨b, o, sp, row, rfl, hr, hx⟩
    · rw [hx] at hil; simp at hil
    have hcell : row[o + i]? = some (.int .i64 x) := by
      have := (hx _ _ gx).2 0 (by omega)
      simpa [ints] using this
    have ea := all_snocI gx numK
    cases hb : (b0 && (l.take i).all numK) with
    | false =>
      have ea' : (b0 && (l.take (i + 1)).all numK) = false := by rw [ea, ← Bool.and_assoc, hb]; rfl
      rw [hb] at g5
      simp (maxDischargeDepth := 30) only [AMS, AMH, ↓reduceIte, Nat.reduceLT, Nat.reduceEqDiff, Nat.reduceAdd, Nat.reduceMul, reduceCtorEq, decide_true, decide_false, Nat.reduceLeDiff, Int.reduceNe, Int.reduceEq, ne_eq, not_false_eq_true, and_self, F29_P10, k1, g4, g6, g5, lt_t hil, hil, i_next hil hll]
      refine ih (l.length - (i + 1)) _ _ (by omega) ?_
      exact ⟨i + 1, by omega, rfl, by simp [upd_at, g4], by simp [upd_at], by simp [upd_at, ea'], rfl⟩
    | true =>
      have ea' : (b0 && (l.take (i + 1)).all numK) = numK x := by rw [ea, ← Bool.and_assoc, hb]; rfl
      rw [hb] at g5
      have hin : inP x 0 9999 = numK x := rfl
      simp (maxDischargeDepth := 30) only [AMS, AMH, ↓reduceIte, Nat.reduceLT, Nat.reduceEqDiff, Nat.reduceAdd, Nat.reduceMul, reduceCtorEq, decide_true, decide_false, Nat.reduceLeDiff, Int.reduceNe, Int.reduceEq, ne_eq, not_false_eq_true, and_self, F29_P10, k1, g4, g6, g5, lt_t hil, hil, Nat.mul_one, hr, hcell, in_r, hin, i_next hil hll]
      refine ih (l.length - (i + 1)) _ _ (by omega) ?_
      exact ⟨i + 1, by omega, rfl, by simp [upd_at, g4], by simp [upd_at], by simp [upd_at, ea'], rfl⟩
  · have : i = l.length := by omega
    subst this
    rw [List.take_length, he.1] at g5
    simp (maxDischargeDepth := 30) only [AMS, AMH, ↓reduceIte, Nat.reduceLT, Nat.reduceEqDiff, Nat.reduceAdd, Nat.reduceMul, reduceCtorEq, decide_true, decide_false, Nat.reduceLeDiff, Int.reduceNe, Int.reduceEq, ne_eq, not_false_eq_true, and_self, F29_P10, k1, g4, g6, g5, lt_f]
    exact ⟨⟨_, l, _, rfl, by first | rfl | trivial, q, hll, he.2⟩, f1⟩

/- WHICH ENTRY -/
theorem pos_get {x : Bs} : ∀ {l : List Bs} {k i : Nat}, pos x l k = ((k + i : Nat) : Int) → l[i]? = some x
  | [], k, i, h => by unfold pos at h; omega
  | w :: l, k, i, h => by
    unfold pos at h
    split at h
    · rename_i e
      have : i = 0 := by omega
      subst this
      simp [e]
    · cases i with
      | zero =>
        exfalso
        have : ∀ (l : List Bs) (k : Nat), pos x l k = -1 ∨ (k : Int) ≤ pos x l k := by
          intro l
          induction l with
          | nil => intro k; exact .inl rfl
          | cons v r ih =>
            intro k
            unfold pos
            split
            · right; omega
            · rcases ih (k + 1) with q | q
              · exact .inl q
              · right; omega
        rcases this l (k + 1) with q | q <;> omega
      | succ i =>
        have := pos_get (l := l) (k := k + 1) (i := i) (by rw [h]; omega)
        simpa using this
theorem ent_hit {t w : Bs} {ws : List Bs} {k : Int} (hc : cutAt 32 t = w :: ws) (ha : ws.all numB = true) (hk : isKind k = true) (hw : w = wordK k) (hin : inP ws.length (manyK k).1 (manyK k).2 = true) : entryB t = some (k, vals ws) := by
  have hp := (word_pos hk).1
  have hk' := of_decide_eq_true hk
  have e : partedB t = some (k - 1, vals ws) := by
    unfold partedB
    rw [hc]
    show (if pos w wordL 0 = -1 then none else if ws.all numB = true then some (pos w wordL 0, vals ws) else none) = _
    rw [hw, hp, if_neg (by omega), if_pos ha]
  unfold entryB
  rw [e]
  show (if k - 1 ≤ 12 ∧ formed (1 + (k - 1)) (vals ws) = true then some (1 + (k - 1), vals ws) else none) = _
  have hf : formed k (vals ws) = true := by
    unfold formed
    have : (vals ws).length = ws.length := by simp [vals]
    rw [hk, this, hin, vals_numK ha]; rfl
  rw [show 1 + (k - 1) = k by omega, if_pos ⟨by omega, hf⟩]
theorem ent_none {t w : Bs} {ws : List Bs} (hc : cutAt 32 t = w :: ws) (h : ∀ j : Nat, 1 ≤ j → j < 14 → (ws.all numB && (decide (w = wordK j) && inP ws.length (manyK j).1 (manyK j).2)) = false) : entryB t = none := by
  have e : partedB t = if pos w wordL 0 = -1 then none else if ws.all numB = true then some (pos w wordL 0, vals ws) else none := by unfold partedB; rw [hc]
  unfold entryB
  rw [e]
  by_cases h1 : pos w wordL 0 = -1
  · rw [if_pos h1]
  rw [if_neg h1]
  cases ha : ws.all numB with
  | false => rfl
  | true =>
    rw [if_pos rfl]
    show (if pos w wordL 0 ≤ 12 ∧ formed (1 + pos w wordL 0) (vals ws) = true then _ else none) = none
    rw [if_neg]
    rintro ⟨h2, h3⟩
    obtain ⟨hf, _, _⟩ := formed_ok h3
    have hf' := of_decide_eq_true hf
    obtain ⟨i, hi⟩ : ∃ i : Nat, pos w wordL 0 = (i : Int) := ⟨(pos w wordL 0).toNat, by omega⟩
    have gw := pos_get (x := w) (l := wordL) (k := 0) (i := i) (by rw [hi]; simp)
    have := h (i + 1) (by omega) (by omega)
    have hw : w = wordK ((i + 1 : Nat) : Int) := by
      unfold wordK
      rw [show (((i + 1 : Nat) : Int) - 1).toNat = i by omega, List.getD_eq_getElem?_getD, gw]; rfl
    have hin : inP ws.length (manyK ((i + 1 : Nat) : Int)).1 (manyK ((i + 1 : Nat) : Int)).2 = true := by
      unfold formed at h3
      rw [Bool.and_eq_true, Bool.and_eq_true] at h3
      have e1 : (1 : Int) + pos w wordL 0 = ((i + 1 : Nat) : Int) := by rw [hi]; omega
      have e2 : (vals ws).length = ws.length := by simp [vals]
      rw [e1, e2] at h3
      exact h3.2.1
    rw [ha, hin, decide_eq_true hw] at this
    cases this

set_option maxRecDepth 10000 in
set_option maxHeartbeats 4000000 in
theorem Parse_r {t : Bs} {h : Heap} (hk : HOK h) (hp : 0 < h.next) (ht : t.length ≤ 900) :
    CW CC 12 [.string (bs t)] h fun r h' => ((∃ k l v, entryB t = some (k, l) ∧ r = .tuple ⟨[.agg ⟨[.int .i64 k, v]⟩, .bool true]⟩ ∧ LS h' v l ints 1) ∨ (entryB t = none ∧ r = .tuple ⟨[.agg ⟨[.int .i64 0, .slice none 0 0]⟩, .bool false]⟩)) ∧ Fr h h' := by
  refine CW_in Tryz.f12 (by kernel_rfl) (by kernel_rfl) rfl rfl ?_
  simp only [Tryz.f12, bs_mk]
  have f0 : Fr h (h.alloc (.row [.int .i64 0, .slice none 0 0] 0 true)) := (Fr.refl hk).alloc _
  have z0 : (h.alloc (.row [.int .i64 0, .slice none 0 0] 0 true)).get h.next = some (.row [.int .i64 0, .slice none 0 0] 0 true) := get_at _ rfl
  have n0 : (h.alloc (.row [.int .i64 0, .slice none 0 0] 0 true)).next = h.next + 1 := by simp
  simp (maxDischargeDepth := 30) only [AMS, AMH, ↓reduceIte, Nat.reduceLT, Nat.reduceEqDiff, Nat.reduceAdd, Nat.reduceMul, reduceCtorEq, decide_true, decide_false, Nat.reduceLeDiff, Int.reduceNe, Int.reduceEq, ne_eq, not_false_eq_true, and_self, F12_P10, hk, bs_mk]
  generalize (h.alloc (.row [.int .i64 0, .slice none 0 0] 0 true)) = h0 at f0 z0 n0 ⊢
  have k0 := f0.ok
  refine W_call (split_101 (s := t) (c := 32) k0 (by omega) (by omega)) ?_
  rintro V h1 ⟨q, fr1⟩
  have f1 := f0.trans fr1
  have k1 := f1.ok
  have z1 := fr1.get' k0 z0
  have hcl := cut_len 32 t
  have hcp := cut_pos 32 t
  obtain ⟨w, ws, ecut⟩ : ∃ w ws, cutAt 32 t = w :: ws := by
    cases e : cutAt 32 t with
    | nil => rw [e] at hcp; simp at hcp
    | cons w ws => exact ⟨w, ws, rfl⟩
  have hmem : ∀ x ∈ ws, x.length ≤ 100000 := fun x hx => by
    have := cut_mem (c := 32) (s := t) (w := x) (by rw [ecut]; exact List.mem_cons_of_mem _ hx)
    omega
  rw [ecut] at q hcl
  rcases q with ⟨_, _, e⟩ | ⟨b, rfl, hb0, hNb, gb, _⟩
  · simp at e
  obtain ⟨b, rfl⟩ : ∃ b', b = b' + 1 := ⟨b - 1, by omega⟩
  have hlen : (w :: ws).length = ws.length + 1 := rfl
  rw [hlen] at hcl ⊢
  have r1 : rowAt h1 (b + 1) = some ((w :: ws).flatMap strC) := by unfold rowAt; rw [gb]; rfl
  have c2 : ((w :: ws).flatMap strC)[0]? = some (.string (bs w)) := rfl
  have l1 : LS h1 (.slice (some ⟨b + 1, 1, some 1⟩) ws.length ws.length) ws strC 1 := by
    have := LS.sub (ws := w :: ws) (h := h1) (b := b + 1) 1 ws.length (c := ws.length) (sp := some 1) r1 (by simp; omega)
    simpa using this
  have s1 : aSlice CC 87 (.slice (some ⟨b + 1, 0, some 1⟩) (ws.length + 1) (ws.length + 1)) (some (.int .i64 1)) none none = some (.slice (some ⟨b + 1, 1, some 1⟩) ws.length ws.length) := sl_87n b (ws.length + 1) (ws.length + 1) 1 (by omega) (Nat.le_refl _)
  simp (maxDischargeDepth := 30) only [AMS, AMH, ↓reduceIte, Nat.reduceLT, Nat.reduceEqDiff, Nat.reduceAdd, Nat.reduceMul, reduceCtorEq, decide_true, decide_false, Nat.reduceLeDiff, Int.reduceNe, Int.reduceEq, ne_eq, not_false_eq_true, and_self, F12_P10, k1, s1, Option.map_some, Option.map_none]
  refine W_call (numbered_r k1 (by have := f1.next; omega) l1 (by omega) hmem) ?_
  rintro _ h2 ⟨⟨is, l, v, his, rfl, q, hl9, hval⟩, fr2⟩
  have f2 := f1.trans fr2
  have k2 := f2.ok
  have r2 := fr2.row' k1 r1
  have z2 := fr2.get' k1 z1
  obtain ⟨p', c', e'⟩ := q.value
  subst e'
  simp (maxDischargeDepth := 30) only [AMS, AMH, ↓reduceIte, Nat.reduceLT, Nat.reduceEqDiff, Nat.reduceAdd, Nat.reduceMul, reduceCtorEq, decide_true, decide_false, Nat.reduceLeDiff, Int.reduceNe, Int.reduceEq, ne_eq, not_false_eq_true, and_self, F12_P10, k2]
  refine W_loop 13 (fun m f h' => ∃ k : Nat, 1 ≤ k ∧ k ≤ 14 ∧ m = 14 - k ∧ f 2 = .pointer (some ⟨h.next, 0, none⟩) ∧ f 4 = .slice (some ⟨b + 1, 0, some 1⟩) (ws.length + 1) (ws.length + 1) ∧ f 5 = .slice p' l.length c' ∧ f 6 = .bool is ∧ f 7 = .int .i64 k ∧
      (∀ j : Nat, 1 ≤ j → j < k → (ws.all numB && (decide (w = wordK j) && inP ws.length (manyK j).1 (manyK j).2)) = false) ∧ Fr h2 h')
    ⟨1, by omega, by omega, by omega, by simp [upd_at], by simp [upd_at], by simp [upd_at], by simp [upd_at], by simp [upd_at], fun j a c => by omega, Fr.refl k2⟩ ?_
  rintro m f h3 ⟨k, hk1, hk14, rfl, g2, g4, g5, g6, g7, hno, fr3⟩ ih
  have f3 := f2.trans fr3
  have k3 := f3.ok
  have r3 := fr3.row' k2 r2
  have z3 := fr3.get' k2 z2
  have lq := q.fr k2 fr3
  by_cases h13 : k ≤ 13
  rotate_left
  · have : k = 14 := by omega
    subst this
    have lf : decide (((14 : Nat) : Int) ≤ 13) = false := rfl
    simp (maxDischargeDepth := 30) only [AMS, AMH, ↓reduceIte, Nat.reduceLT, Nat.reduceEqDiff, Nat.reduceAdd, Nat.reduceMul, reduceCtorEq, decide_true, decide_false, Nat.reduceLeDiff, Int.reduceNe, Int.reduceEq, ne_eq, not_false_eq_true, and_self, F12_P10, k3, g2, g4, g5, g6, g7, z3, lf, bldE_n, List.set_cons_zero]
    exact ⟨.inr ⟨ent_none ecut hno, by first | rfl | trivial⟩, f3.set (Nat.le_refl _) (get_lt k3 z3) _⟩
  have lt : decide ((k : Int) ≤ 13) = true := decide_eq_true (by omega)
  have up : IntKind.i64.wrap ((k : Int) + 1) = ((k + 1 : Nat) : Int) := by rw [wrap64 (by omega) (by omega)]; rfl
  have hkk : isKind (k : Int) = true := decide_eq_true ⟨by omega, by omega⟩
  have hpos : aIndexAddr CC 87 (.slice (some ⟨b + 1, 0, some 1⟩) (ws.length + 1) (ws.length + 1)) (.int .i64 0) = some (.pointer (some ⟨b + 1, 0, none⟩)) := ix_87 (b + 1) 0 (some 1) (ws.length + 1) (ws.length + 1) 0 (by omega)
  have more : ∀ h', (ws.all numB && (decide (w = wordK k) && inP ws.length (manyK k).1 (manyK k).2)) = false → Fr h2 h' → ∀ f' : Nat → Value, f' 2 = f 2 → f' 4 = f 4 → f' 5 = f 5 → f' 6 = f 6 → f' 7 = .int .i64 (k + 1 : Nat) → ∃ k0 : Nat, 1 ≤ k0 ∧ k0 ≤ 14 ∧ 14 - (k + 1) = 14 - k0 ∧ f' 2 = .pointer (some ⟨h.next, 0, none⟩) ∧ f' 4 = .slice (some ⟨b + 1, 0, some 1⟩) (ws.length + 1) (ws.length + 1) ∧ f' 5 = .slice p' l.length c' ∧ f' 6 = .bool is ∧ f' 7 = .int .i64 k0 ∧
      (∀ j : Nat, 1 ≤ j → j < k0 → (ws.all numB && (decide (w = wordK j) && inP ws.length (manyK j).1 (manyK j).2)) = false) ∧ Fr h2 h' := by
    intro h' hf fr f' e2 e4 e5 e6 e7
    refine ⟨k + 1, by omega, by omega, rfl, by rw [e2, g2], by rw [e4, g4], by rw [e5, g5], by rw [e6, g6], e7, fun j a c => ?_, fr⟩
    rcases Nat.lt_or_ge j k with q | q
    · exact hno j a q
    · have : j = k := by omega
      subst this; exact hf
  simp (maxDischargeDepth := 30) only [AMS, AMH, ↓reduceIte, Nat.reduceLT, Nat.reduceEqDiff, Nat.reduceAdd, Nat.reduceMul, reduceCtorEq, decide_true, decide_false, Nat.reduceLeDiff, Int.reduceNe, Int.reduceEq, ne_eq, not_false_eq_true, and_self, F12_P10, k3, g2, g4, g5, g6, g7, lt]
  refine W_draw [(true, 0), (true, 1), (true, 2), (true, 3), (true, 4), (true, 5), (true, 6), (false, 4), (true, 7), (true, 8), (true, 9), (true, 10), (true, 11), (true, 12), (true, 15), (true, 13), (false, 11), (true, 14), (true, 16), (false, 11), (true, 17), (true, 18), (true, 19)] (by kernel_rfl) ?_
  cases his0 : is with
  | false =>
    subst his0
    simp (maxDischargeDepth := 30) only [AMS, AMH, ↓reduceIte, Nat.reduceLT, Nat.reduceEqDiff, Nat.reduceAdd, Nat.reduceMul, reduceCtorEq, decide_true, decide_false, Nat.reduceLeDiff, Int.reduceNe, Int.reduceEq, ne_eq, not_false_eq_true, and_self, AMR, F12_P10, k3, g2, g4, g5, g6, g7, up]
    exact ih (14 - (k + 1)) _ _ (by omega) (more _ (by rw [← his]; rfl) fr3 _ (by simp [upd_at]) (by simp [upd_at]) (by simp [upd_at]) (by simp [upd_at]) (by simp [upd_at]))
  | true =>
    subst his0
    have hv := hval rfl
    have hll : l.length = ws.length := by rw [hv]; simp [vals]
    simp (maxDischargeDepth := 30) only [AMS, AMH, ↓reduceIte, Nat.reduceLT, Nat.reduceEqDiff, Nat.reduceAdd, Nat.reduceMul, reduceCtorEq, decide_true, decide_false, Nat.reduceLeDiff, Int.reduceNe, Int.reduceEq, ne_eq, not_false_eq_true, and_self, AMR, F12_P10, k3, g2, g4, g5, g6, g7, hpos, r3, c2, Nat.mul_one, Nat.zero_add]
    refine W_callP (name_p k3 hkk) ?_
    rintro _ h4 ⟨rfl, fr4⟩
    have f4 := f3.trans fr4
    have k4 := f4.ok
    have r4 := fr4.row' k3 r3
    have z4 := fr4.get' k3 z3
    by_cases hw : w = wordK k
    rotate_left
    · have d : decide (w = wordK k) = false := decide_eq_false hw
      simp (maxDischargeDepth := 30) only [AMS, AMH, ↓reduceIte, Nat.reduceLT, Nat.reduceEqDiff, Nat.reduceAdd, Nat.reduceMul, reduceCtorEq, decide_true, decide_false, Nat.reduceLeDiff, Int.reduceNe, Int.reduceEq, ne_eq, not_false_eq_true, and_self, AMR, F12_P10, k4, g2, g4, g5, g6, g7, hpos, r4, c2, Nat.mul_one, Nat.zero_add, s_eq, d, up]
      exact ih (14 - (k + 1)) _ _ (by omega) (more _ (by rw [d]; simp) (fr3.trans fr4) _ (by simp [upd_at]) (by simp [upd_at]) (by simp [upd_at]) (by simp [upd_at]) (by simp [upd_at]))
    have d : decide (w = wordK k) = true := decide_eq_true hw
    simp (maxDischargeDepth := 30) only [AMS, AMH, ↓reduceIte, Nat.reduceLT, Nat.reduceEqDiff, Nat.reduceAdd, Nat.reduceMul, reduceCtorEq, decide_true, decide_false, Nat.reduceLeDiff, Int.reduceNe, Int.reduceEq, ne_eq, not_false_eq_true, and_self, AMR, F12_P10, k4, g2, g4, g5, g6, g7, hpos, r4, c2, Nat.mul_one, Nat.zero_add, s_eq, d]
    refine W_callP (many_r k k4) ?_
    rintro _ h5 ⟨rfl, fr5⟩
    have f5 := f4.trans fr5
    have k5 := f5.ok
    have r5 := fr5.row' k4 r4
    have z5 := fr5.get' k4 z4
    simp (maxDischargeDepth := 30) only [AMS, AMH, ↓reduceIte, Nat.reduceLT, Nat.reduceEqDiff, Nat.reduceAdd, Nat.reduceMul, reduceCtorEq, decide_true, decide_false, Nat.reduceLeDiff, Int.reduceNe, Int.reduceEq, ne_eq, not_false_eq_true, and_self, AMR, F12_P10, k5, g2, g4, g5, g6, g7, hpos, r5, c2, Nat.mul_one, Nat.zero_add, s_eq, d]
    refine W_callP (many_r k k5) ?_
    rintro _ h6 ⟨rfl, fr6⟩
    have f6 := f5.trans fr6
    have k6 := f6.ok
    have r6 := fr6.row' k5 r5
    have z6 := fr6.get' k5 z5
    have q6 := ((lq.fr k3 fr4).fr k4 fr5).fr k5 fr6
    have frA := ((fr3.trans fr4).trans fr5).trans fr6
    cases hin : inP l.length (manyK k).1 (manyK k).2 with
    | false =>
      simp (maxDischargeDepth := 30) only [AMS, AMH, ↓reduceIte, Nat.reduceLT, Nat.reduceEqDiff, Nat.reduceAdd, Nat.reduceMul, reduceCtorEq, decide_true, decide_false, Nat.reduceLeDiff, Int.reduceNe, Int.reduceEq, ne_eq, not_false_eq_true, and_self, AMR, F12_P10, k6, g2, g4, g5, g6, g7, hpos, r6, c2, Nat.mul_one, Nat.zero_add, s_eq, d, in_r, hin, up]
      exact ih (14 - (k + 1)) _ _ (by omega) (more _ (by rw [← hll, hin]; simp) frA _ (by simp [upd_at]) (by simp [upd_at]) (by simp [upd_at]) (by simp [upd_at]) (by simp [upd_at]))
    | true =>
      simp (maxDischargeDepth := 30) only [AMS, AMH, ↓reduceIte, Nat.reduceLT, Nat.reduceEqDiff, Nat.reduceAdd, Nat.reduceMul, reduceCtorEq, decide_true, decide_false, Nat.reduceLeDiff, Int.reduceNe, Int.reduceEq, ne_eq, not_false_eq_true, and_self, AMR, F12_P10, k6, g2, g4, g5, g6, g7, hpos, r6, c2, Nat.mul_one, Nat.zero_add, s_eq, d, in_r, hin, up, z6, List.set_cons_zero]
      refine ⟨.inl ⟨k, vals ws, _, ent_hit ecut his.symm hkk hw (by rw [← hll]; exact hin), by first | rfl | trivial, ?_⟩, f6.set (Nat.le_refl _) (get_lt k6 z6) _⟩
      rw [← hv]
      exact SL.ls ints_len (q6.set_low k6 (by have := fr1.next; omega) _)
end Go.Am
