/- Parts U13, S4, S5, S6 of the abstract machine over this program, joined: what each part says stands at its head. -/
import Derived.Test.YtlflfbnnjlkkcaaGreatJU12
import Derived.Test.YtlflfbnnjlkkcaaGreatJS2
set_option linter.unusedSimpArgs false
set_option linter.unusedVariables false
set_option linter.defProp false
namespace Go.Am
open Go Go.Proofs
def F253_U13 := A2 @fp_47_0 <| A2 @fp_47_2 <| A2 @ix_22 <| A2 @ix_45 <| A2 @ld_166 <| A2 @ld_22 <| A2 @ld_3 <| A2 @ld_45 <| A2 @ld_47 <| A2 @len_22 <| A2 @part_166 <| A2 @part_3 <| A2 @size_166 <| A2 @size_22 <| A2 @size_3 <| A2 @size_45 <| A2 @und_22 <| A2 @und_3 <| A2 @und_45 <| A2 @zero_22 <| A2 @zero_3 @zero_45
theorem mid_get' {A B : List Int} (hl : A.length = B.length) (i : Nat) : (B.take i ++ A.drop i)[i]? = A[i]? := by
  by_cases h : i ≤ B.length
  · rw [List.getElem?_append_right (by rw [List.length_take]; omega), List.getElem?_drop, List.length_take, Nat.min_eq_left h]
    simp
  · rw [List.getElem?_eq_none (by simp; omega), List.getElem?_eq_none (by omega)]
theorem mid_setP {A B : List Int} (hl : A.length = B.length) {i : Nat} {y : Int} (hy : B[i]? = some y) : (B.take i ++ A.drop i).set i y = B.take (i + 1) ++ A.drop (i + 1) := by
  have hi := (List.getElem?_eq_some_iff.1 hy).1
  rw [List.set_append_right _ _ (by rw [List.length_take]; omega), List.length_take, Nat.min_eq_left (by omega), Nat.sub_self, take_snoc hy, List.append_assoc]
  congr 1
  rw [List.drop_eq_getElem_cons (by omega : i < A.length)]
  rfl
theorem weights_len (n : Nat) (t : Tar) (bs : List Board) (hs : List Int) : (weights n t bs hs).length = n := by
  unfold weights; split <;> exact ownParts_len _ _ _
theorem takeRef_len : ∀ (c : Nat) (out r : List Int), (takeRef c out r).length = out.length
  | 0, _, _ => rfl
  | c + 1, out, r => by unfold takeRef; rw [takeRef_len c, bump_len]
theorem sharesL_len {P : Int} {W : List Int} : (sharesL P W).length = W.length := by
  unfold sharesL; rw [takeRef_len]; simp [baseL]
theorem takeRef_b {B : Int} : ∀ (c : Nat) (out r : List Int), 0 ≤ B → (∀ x ∈ out, 0 ≤ x ∧ x ≤ B) → ∀ x ∈ takeRef c out r, 0 ≤ x ∧ x ≤ B + c
  | 0, _, _, _, h => fun x hx => by have := h x hx; omega
  | c + 1, out, r, hB, h => fun x hx => by
    unfold takeRef at hx
    have := takeRef_b (B := B + 1) c (bump out (argmax r r.length)) (r.set (argmax r r.length) (-1)) (by omega) (fun y hy => by
      unfold bump at hy
      rcases mem_set hy with q | rfl
      · have := h y q; omega
      · rw [List.getD_eq_getElem?_getD]
        cases e : out[argmax r r.length]? with
        | none => simp; omega
        | some z => have := h z (List.mem_of_getElem? e); simp; omega) x hx
    omega
theorem weights_b {s : Sheet} {t : Tar} {l : List Int} (ok : s.ok = true) (hq : ∀ x ∈ qtys t s.boards l, 0 ≤ x ∧ x ≤ 60) (hll : l.length = s.boards.length) : (∀ x ∈ weights s.offs.length t s.boards l, 0 ≤ x ∧ x ≤ 1000) ∧ 1 ≤ sumI (weights s.offs.length t s.boards l) := by
  have hlen := Sheet.ok_len ok
  have ql := qtys_len (t := t) hll
  have how : ∀ b ∈ s.boards, 0 ≤ b.ow ∧ b.ow < (s.offs.length : Int) := fun b hb => by
    have := of_decide_eq_true (Sheet.ok_boards ok b hb); omega
  have gen : ∀ m : List Int, m.length = s.boards.length → (∀ x ∈ m, 0 ≤ x ∧ x ≤ 60) → ∀ x ∈ ownParts s.offs.length s.boards m, 0 ≤ x ∧ x ≤ 1000 := fun m hm hb x hx => by
    unfold ownParts at hx
    rw [List.mem_map] at hx
    obtain ⟨k, _, rfl⟩ := hx
    have := ownSum_b (k := (k : Int)) (B := 60) (by omega) (bs := s.boards) hb
    omega
  unfold weights
  split
  · exact ⟨gen _ (by rw [List.length_replicate]) fun x hx => by have := List.eq_of_mem_replicate hx; omega, by rw [ownParts_sum (by rw [List.length_replicate]) how, sumI_ones]; omega⟩
  · rename_i hne
    have g := gen _ ql hq
    have := sumI_bound g
    exact ⟨g, by omega⟩
theorem sharesL_b {P : Int} {W : List Int} (hP : 0 ≤ P ∧ P ≤ 1000000) (hW : ∀ x ∈ W, 0 ≤ x ∧ x ≤ 1000) (hA : 1 ≤ sumI W) (hl : W.length ≤ 3) : ∀ x ∈ sharesL P W, 0 ≤ x ∧ x ≤ 1000000010 := by
  have lb := left_bP hP.1 (fun w hw => (hW w hw).1) hA
  intro x hx
  have := takeRef_b (B := 1000000000) _ _ _ (by omega) (fun y hy => by
    unfold baseL at hy
    rw [List.mem_map] at hy
    obtain ⟨w, hw', rfl⟩ := hy
    have hw := hW w hw'
    have pw0 : 0 ≤ P * w := Int.mul_nonneg hP.1 hw.1
    have pw1 : P * w ≤ 1000000 * 1000 := Int.mul_le_mul hP.2 hw.2 hw.1 (by omega)
    have dd := div_b (a := P * w) (b := sumI W) pw0 hA
    omega) x hx
  have : (leftN P W : Int) < 4 := by unfold leftN; omega
  omega
def owesL (X offs : List Int) : List Int := (X.zip offs).map fun p => p.1 - p.1 * p.2 / 100
theorem owesL_len {X offs : List Int} (h : X.length = offs.length) : (owesL X offs).length = X.length := by simp [owesL, h]
theorem owesL_get {X offs : List Int} {i : Nat} {x o : Int} (h1 : X[i]? = some x) (h2 : offs[i]? = some o) : (owesL X offs)[i]? = some (x - x * o / 100) := by
  have : (X.zip offs)[i]? = some (x, o) := List.getElem?_zip_eq_some.2 ⟨h1, h2⟩
  unfold owesL; rw [List.getElem?_map, this]; rfl
set_option maxRecDepth 10000 in
set_option maxHeartbeats 2000000 in
theorem owes_58 {h : Heap} (hk : HOK h) (hp : 0 < h.next) {a b c v : Value} {s : Sheet} {l : List Int} {i : Nat} {t : Tar} (hs : IsSheet h a b c s) (hv : LS h v l ints 1) (ok : s.ok = true) (two : s.boards.length = 2) (hl : hoursOK s.boards l = true) (ht : s.tars[i]? = some t) :
    CW CC 253 [.agg ⟨[a, b, c]⟩, .int .i64 i, v] h fun r h' => ∃ x, r = .tuple ⟨[x, .int .i64 0]⟩ ∧ LS h' x (owesL (sharesL (paid t s.boards l) (weights s.offs.length t s.boards l)) s.offs) ints 1 ∧ Fr h h' := by
  have hlen := Sheet.ok_len ok
  have hil := (List.getElem?_eq_some_iff.1 ht).1
  have hll := (hoursOK_at hl).1
  have htok := Sheet.ok_tars ok t (List.mem_of_getElem? ht)
  have hq := qtys_b ok hl t
  have hs' := hs
  obtain ⟨p1, c1, rfl, x1⟩ := hs.offs.open
  obtain ⟨p2, c2, rfl, _⟩ := hs.boards.open
  obtain ⟨p3, c3, rfl, x3⟩ := hs.tars.open
  obtain ⟨p4, c4, rfl, _⟩ := hv.open
  obtain ⟨bt, ot, spt, rowt, rfl, rrt, et⟩ := LS.at (n := 0) (c := 0) x3 ht
  refine CW_in Tryz.f253 (by kernel_rfl) (by kernel_rfl) rfl rfl ?_
  simp only [Tryz.f253]
  have f1 : Fr h (h.alloc (.row [.slice p1 s.offs.length c1, .slice p2 s.boards.length c2, .slice (some ⟨bt, ot, spt⟩) s.tars.length c3] 0 true)) := (Fr.refl hk).alloc _
  have r1 : rowAt (h.alloc (.row [.slice p1 s.offs.length c1, .slice p2 s.boards.length c2, .slice (some ⟨bt, ot, spt⟩) s.tars.length c3] 0 true)) h.next = some [.slice p1 s.offs.length c1, .slice p2 s.boards.length c2, .slice (some ⟨bt, ot, spt⟩) s.tars.length c3] := rowAt_new _ _ _ _
  obtain ⟨_, h2, e2, rfl, fr2⟩ := isOne_70 f1.ok (hs.fr hk f1) (i : Int) (by omega)
  have f2 := f1.trans fr2
  have r2 := fr2.row' f1.ok r1
  have hin : (s.ok && inP i 0 (s.tars.length - 1)) = true := by
    rw [ok]; simp [inP]; omega
  rw [hin] at e2
  obtain ⟨_, h3, e4, rfl, fr3⟩ := areHours_74 f2.ok (hs.fr hk f2) (hv.fr hk f2) (by omega) (by omega)
  rw [hl] at e4
  have f3 := f2.trans fr3
  have r3 := fr3.row' f2.ok r2
  have kc : t.cells.all selfC = true := rfl
  simp (maxDischargeDepth := 30) only [AA, ↓reduceIte, Nat.reduceLT, Nat.reduceEqDiff, Nat.reduceAdd, Nat.reduceMul, reduceCtorEq, Nat.reduceLeDiff, Int.reduceNe, Int.reduceEq, F253_U13, hk, e2, f2.ok, r2, e4]
  refine W_draw [(true, 0), (true, 1), (true, 3), (true, 4), (true, 5), (true, 6), (true, 7), (true, 2), (false, 4), (false, 7), (true, 8), (true, 9)] (by kernel_rfl) ?_
  have rr3' := f3.row' hk rrt
  simp (maxDischargeDepth := 30) only [AA, ↓reduceIte, Nat.reduceLT, Nat.reduceEqDiff, Nat.reduceAdd, Nat.reduceMul, reduceCtorEq, Nat.reduceLeDiff, Int.reduceNe, Int.reduceEq, F253_U13, f3.ok, r3, hil, rr3', et]
  refine W_callP (bill_72 f3.ok (hs.fr hk f3) (hv.fr hk f3)) ?_
  rintro bv h4 ⟨m, fr4, hm4, hb4, hmap⟩
  have f4 := f3.trans fr4
  have r4 := fr4.row' f3.ok r3
  have rr4' := f4.row' hk rrt
  simp (maxDischargeDepth := 30) only [AA, ↓reduceIte, Nat.reduceLT, Nat.reduceEqDiff, Nat.reduceAdd, Nat.reduceMul, reduceCtorEq, Nat.reduceLeDiff, Int.reduceNe, Int.reduceEq, AMR, F253_U13, f4.ok, r4, hil, rr4', et, kc]
  refine W_callP (shares_89 (t := t) f4.ok (by have := f4.next; omega) hb4 hmap ok two htok hll hq) ?_
  rintro x h5 ⟨q, F5⟩
  have f35 : Fr h3 h5 := F5.fr fr4 hm4
  have f5 := f3.trans f35
  have r5 := f35.row' f3.ok r3
  have rr5' := f5.row' hk rrt
  have slen := sharesL_len (P := paid t s.boards l) (W := weights s.offs.length t s.boards l)
  rw [weights_len] at slen
  have wb := weights_b (t := t) ok hq hll
  have hP := paid_b htok hll ⟨by omega, by omega⟩ hq
  have sb := sharesL_b hP wb.1 wb.2 (by rw [weights_len]; omega)
  generalize sharesL (paid t s.boards l) (weights s.offs.length t s.boards l) = X at q slen sb
  have ol := owesL_len slen
  rcases q with ⟨_, _, e0⟩ | ⟨bo, rfl, ob0, obN, og, _⟩
  · omega
  simp (maxDischargeDepth := 30) only [AA, ↓reduceIte, Nat.reduceLT, Nat.reduceEqDiff, Nat.reduceAdd, Nat.reduceMul, reduceCtorEq, Nat.reduceLeDiff, Int.reduceNe, Int.reduceEq, AMR, F253_U13, f5.ok, r5, hil, rr5', et, kc]
  have nbo : h.next ≤ bo := by have := f4.next; omega
  refine W_loop s.offs.length (fun m' f h' => ∃ k, k ≤ s.offs.length ∧ m' = s.offs.length - k ∧ f 8 = .slice (some ⟨bo, 0, some 1⟩) s.offs.length s.offs.length ∧ f 31 = .slice p1 s.offs.length c1 ∧ f 32 = .int .i64 s.offs.length ∧ f 33 = .int .i64 k ∧
      h'.get bo = some (.row (((owesL X s.offs).take k ++ X.drop k).flatMap ints) 1 true) ∧ Fr h h')
    ⟨0, by omega, by omega, by simp [upd_at], by simp [upd_at], by simp [upd_at], by simp [upd_at], by simpa using og, f5⟩ ?_
  clear f5 r5 rr5' og
  rintro m' f h' ⟨k, hk', rfl, g8, g31, g32, g33, go, fr⟩ ih
  have k' := fr.ok
  by_cases hkl : k < s.offs.length
  · obtain ⟨x, gx⟩ : ∃ x, X[k]? = some x := ⟨_, List.getElem?_eq_getElem (by omega)⟩
    obtain ⟨o, gof⟩ : ∃ x, s.offs[k]? = some x := ⟨_, List.getElem?_eq_getElem hkl⟩
    obtain ⟨b1, o1, sp1, row1, rfl, rr1, e1⟩ := hs'.offs.cell gof
    have rr1' := fr.row' hk rr1
    have hx := sb x (List.mem_of_getElem? gx)
    have hob := of_decide_eq_true ((Sheet.ok_iff.1 ok).2.1 o (List.mem_of_getElem? gof))
    have gm : ((owesL X s.offs).take k ++ X.drop k)[k]? = some x := by rw [mid_get' (by omega)]; exact gx
    have gow := owesL_get gx gof
    have m0 : 0 ≤ x * o := Int.mul_nonneg hx.1 hob.1
    have m1 : x * o ≤ 1000000010 * 100 := Int.mul_le_mul hx.2 hob.2 hob.1 (by omega)
    have dd := div_b (a := x * o) (b := 100) m0 (by omega)
    have w1 : IntKind.i64.wrap (x * o) = x * o := wrap64 (by omega) (by omega)
    have w2 : IntKind.i64.wrap (x * o / 100) = x * o / 100 := wrap64 (by omega) (by omega)
    have w3 : IntKind.i64.wrap (x - x * o / 100) = x - x * o / 100 := wrap64 (by omega) (by omega)
    have h100 : (100 : Int) ≠ 0 := by decide
    have put := ints_put (y := x - x * o / 100) gm
    rw [mid_setP (by omega) gow] at put
    have ro : rowAt h' bo = some (((owesL X s.offs).take k ++ X.drop k).flatMap ints) := by unfold rowAt; rw [go]; rfl
    have ya := ints_atP gm
    simp (maxDischargeDepth := 30) only [AA, ↓reduceIte, Nat.reduceLT, Nat.reduceEqDiff, Nat.reduceAdd, Nat.reduceMul, reduceCtorEq, Nat.reduceLeDiff, Int.reduceNe, Int.reduceEq, F253_U13, k', g8, g31, g32, g33, lt_t hkl, hkl, Nat.mul_one, rr1', e1]
    refine W_draw [(true, 0), (true, 1), (true, 2), (true, 3), (true, 4), (true, 5), (true, 6), (true, 7), (true, 8), (true, 9), (true, 10), (true, 11), (true, 12), (true, 13)] (by kernel_rfl) ?_
    simp (maxDischargeDepth := 30) only [AA, ↓reduceIte, Nat.reduceLT, Nat.reduceEqDiff, Nat.reduceAdd, Nat.reduceMul, reduceCtorEq, Nat.reduceLeDiff, Int.reduceNe, Int.reduceEq, AMR, F253_U13, k', g8, g31, g32, g33, hkl, Nat.mul_one, ro, ya, w1, I_quo _ _ _ _ (x * o) 100 h100, tdiv_nn m0 (show (1 : Int) ≤ 100 by decide), w2, w3, go, put, i_next hkl (by omega : s.offs.length ≤ 1000)]
    refine ih (s.offs.length - (k + 1)) _ _ (by omega) ?_
    exact ⟨k + 1, by omega, rfl, by simp [upd_at, g8], by simp [upd_at, g31], by simp [upd_at, g32], by simp [upd_at], Heap.get_set_self _ _ _, fr.set nbo (get_lt k' go) _⟩
  · have : k = s.offs.length := by omega
    subst this
    rw [List.take_of_length_le (by omega), List.drop_of_length_le (by omega), List.append_nil] at go
    simp (maxDischargeDepth := 30) only [AA, ↓reduceIte, Nat.reduceLT, Nat.reduceEqDiff, Nat.reduceAdd, Nat.reduceMul, reduceCtorEq, Nat.reduceLeDiff, Int.reduceNe, Int.reduceEq, F253_U13, k', g8, g32, g33, lt_f]
    have ro : rowAt h' bo = some ((owesL X s.offs).flatMap ints) := by unfold rowAt; rw [go]; rfl
    have := LS.of_row (sp := some 1) (c := s.offs.length) ints_len ro
    rw [ol, slen] at this
    exact ⟨_, rfl, this, fr⟩
end Go.Am

namespace Go.Am
open Go Go.Proofs
def F291_S4 := A2 @ix_22 <| A2 @ld_3 <| A2 @len_22 <| A2 @part_3 <| A2 @size_22 <| A2 @size_3 <| A2 @und_22 @zero_22
def F354_S4 := A2 @fp_257_0 <| A2 @fp_257_6 <| A2 @fp_257_7 <| A2 @fp_257_8 <| A2 @fp_281_0 <| A2 @fp_281_1 <| A2 @fp_49_6 <| A2 @ix_22 <| A2 @ld_22 <| A2 @ld_3 <| A2 @ld_47 <| A2 @len_22 <| A2 @part_3 <| A2 @size_22 <| A2 @size_3 <| A2 @und_22 @zero_22
set_option maxRecDepth 10000 in
theorem contains_no {h : Heap} (hk : HOK h) {v : Value} {xs : List Int} (y : Int) (hv : LS h v xs ints 1) (hl : xs.length ≤ 1000) (hy : ∀ x ∈ xs, x ≠ y) :
    callF CC (Lim CC) 251 [v, .int .i64 y] h = some (.ret (.bool false) h none) := by
  obtain ⟨p, c, rfl, hx⟩ := hv.open
  have e : callF CC (Lim CC) 291 [.slice p xs.length c, .int .i64 y] h = some (.ret (.int .i64 (-1)) h none) := by
    refine CW.eq (CW_in Tryz.f291 (by kernel_rfl) (by kernel_rfl) rfl rfl ?_)
    simp only [Tryz.f291]
    simp (maxDischargeDepth := 30) only [AA, ↓reduceIte, Nat.reduceLT, Nat.reduceEqDiff, Nat.reduceAdd, Nat.reduceMul, reduceCtorEq, Nat.reduceLeDiff, Int.reduceNe, Int.reduceEq, XH, F291_S4, hk]
    refine W_for [4, 5, 8, 9, 10, 11, 12, 13, 14, 15, 16, 17, 18] 8 xs.length (fun i g h' => h' = h) (by simp only [upd_at, ↓reduceIte]) rfl ?_ ?_
    · rintro i g _ hi ag g8 rfl ih
      obtain ⟨x, gx⟩ : ∃ x, xs[i]? = some x := ⟨_, List.getElem?_eq_getElem hi⟩
      rcases hx with hx | ⟨b, o, sp, row, rfl, hr, hx⟩
      · rw [hx] at hi; simp at hi
      have c1 : row[o + i]? = some (.int .i64 x) := by simpa [ints] using (hx _ x gx).2 0 (by omega)
      have ne : (y == x) = false := by simpa using fun e => hy x (List.mem_of_getElem? gx) e.symm
      simp (maxDischargeDepth := 30) only [AA, ↓reduceIte, Nat.reduceLT, Nat.reduceEqDiff, Nat.reduceAdd, Nat.reduceMul, reduceCtorEq, Nat.reduceLeDiff, Int.reduceNe, Int.reduceEq, XH, F291_S4, ag.r, NE, g8, hk, lt_t hi, hi, hr, c1, Nat.mul_one, ne, i_next hi hl]
      exact ih _ _ (by simp only [AG, Nat.reduceEqDiff, ag]) (by simp only [upd_at, ↓reduceIte]) rfl
    · rintro g _ ag g8 rfl
      simp (maxDischargeDepth := 30) only [AA, ↓reduceIte, Nat.reduceLT, Nat.reduceEqDiff, Nat.reduceAdd, Nat.reduceMul, reduceCtorEq, Nat.reduceLeDiff, Int.reduceNe, Int.reduceEq, XH, F291_S4, ag.r, NE, g8, hk, lt_f]
  refine CW.eq (CW_in Tryz.f251 (by kernel_rfl) (by kernel_rfl) rfl rfl ?_)
  simp only [Tryz.f251]
  simp (maxDischargeDepth := 30) only [AA, ↓reduceIte, Nat.reduceLT, Nat.reduceEqDiff, Nat.reduceAdd, Nat.reduceMul, reduceCtorEq, Nat.reduceLeDiff, Int.reduceNe, Int.reduceEq, XH, L_nil, hk, e, show decide ((-1 : Int) ≥ 0) = false from rfl]
theorem agreed_d {N : Nat} {h : Heap} {p : Nat} {σ : Sta} {v : StV} (hk : HOK h) (q : IsState N h p σ v) (ht : 0 ≤ σ.tariff) (hh : ∀ x ∈ σ.hours, x ≠ -1) (hl : σ.hours.length ≤ 1000) : callF CC (Lim CC) 252 [.pointer (some ⟨p, 0, none⟩)] h = some (.ret (.bool true) h none) := by
  have rp : rowAt h p = some (σ.cells v) := by unfold rowAt; rw [q.row]; rfl
  have np := row_lt hk rp
  have d1 : decide (σ.tariff ≥ 0) = true := decide_eq_true ht
  have e := contains_no hk (-1) q.hours.ls hl hh
  refine CW.eq (CW_in Tryz.f252 (by kernel_rfl) (by kernel_rfl) rfl rfl ?_)
  simp only [Tryz.f252]
  simp (maxDischargeDepth := 30) only [AA, ↓reduceIte, Nat.reduceLT, Nat.reduceEqDiff, Nat.reduceAdd, Nat.reduceMul, reduceCtorEq, Nat.reduceLeDiff, Int.reduceNe, Int.reduceEq, XH, fp_257_6, fp_257_7, ld_22, ld_3, hk, rp, np, ST4, d1, e]
def owesS (σ : Sta) (t : Tar) : List Int := owesL (sharesL (paid t σ.S.prices.boards σ.hours) (weights σ.S.prices.offs.length t σ.S.prices.boards σ.hours)) σ.S.prices.offs
structure Agreed (σ : Sta) (i : Nat) (t : Tar) : Prop where
  tar : σ.tariff = i
  at' : σ.S.prices.tars[i]? = some t
  hours : hoursOK σ.S.prices.boards σ.hours = true
  no : ∀ x ∈ σ.hours, x ≠ -1
  len : σ.hours.length ≤ 1000
  ok : σ.S.prices.ok = true
  two : σ.S.prices.boards.length = 2
theorem st_32 (σ : Sta) (v : StV) : take? (σ.cells v) 32 3 = some [v.u.of, v.u.bd, v.u.tr] := rfl
set_option maxRecDepth 10000 in
theorem goes_11 {N : Nat} {h : Heap} {p : Nat} {σ : Sta} {v : StV} (hk : HOK h) (h0 : 0 < h.next) (q : IsState N h p σ v) {i k : Nat} {t : Tar} (A : Agreed σ k t) {a b x : Int} (hi : σ.paid[i]? = some a) (hx : (owesS σ t)[i]? = some x) (h1 : 1 ≤ b) (hb : -1000000 ≤ a + b ∧ a + b ≤ 1000000) :
    CX CC 354 [.agg ⟨[.int .i64 i, .int .i64 b]⟩, .pointer (some ⟨p, 0, none⟩)] h (fun _ h' => a + b ≤ x ∧ Fr h h') fun e h' => ¬ a + b ≤ x ∧ refused e ∧ Fr h h' := by
  unfold owesS at hx
  have rp : rowAt h p = some (σ.cells v) := by unfold rowAt; rw [q.row]; rfl
  have np := row_lt hk rp
  obtain ⟨bh, sp, c, e, hg, hrw, li, x1, x2⟩ := q.paid.row hi
  have nb := row_lt hk hrw
  have f1 := ex_fr [.row [.int .i64 i, .int .i64 b] 0 true] (Fr.refl hk)
  have ag := agreed_d f1.ok (q.fr hk f1) (by rw [A.tar]; omega) A.no A.len
  have d1 : decide ((i : Int) < (σ.paid.length : Int)) = true := decide_eq_true (by omega)
  have d2 : decide (b ≥ 1) = true := decide_eq_true h1
  have w : IntKind.i64.wrap (a + b) = a + b := wrap64 (by omega) (by omega)
  have zp : sameV v.paid v.paid = true := by rw [e]; exact same_slice _ _ _
  obtain ⟨ph, ch, eh⟩ := q.hours.ls.len
  have zh : sameV v.hours v.hours = true := by rw [eh]; exact same_slice _ _ _
  refine CX_in Tryz.f354 (by kernel_rfl) (by kernel_rfl) rfl rfl ?_
  simp only [Tryz.f354]
  simp (maxDischargeDepth := 30) only [AA, ↓reduceIte, Nat.reduceLT, Nat.reduceEqDiff, Nat.reduceAdd, Nat.reduceMul, reduceCtorEq, Nat.reduceLeDiff, Int.reduceNe, Int.reduceEq, XH, F354_S4, hk]
  refine W_draw [(true, 0), (true, 1), (true, 2), (true, 3), (true, 4), (true, 5), (true, 6), (true, 7), (true, 8), (true, 9), (true, 10), (true, 11), (true, 12), (true, 13), (true, 14), (true, 15), (true, 16), (true, 17)] (by kernel_rfl) ?_
  simp (maxDischargeDepth := 30) only [AA, ↓reduceIte, Nat.reduceLT, Nat.reduceEqDiff, Nat.reduceAdd, Nat.reduceMul, reduceCtorEq, Nat.reduceLeDiff, Int.reduceNe, Int.reduceEq, AMR, XH, F354_S4, hk, ag, rp, np, ST4, e, d1, d2, must_t]
  obtain ⟨p1, c1, e1⟩ := q.suite.of.1.len
  obtain ⟨p2, c2, e2⟩ := q.suite.bd.1.len
  obtain ⟨p3, c3, e3⟩ := q.suite.tr.1.len
  refine W_draw [(true, 0), (true, 1), (true, 2), (true, 3), (true, 4), (true, 5), (true, 6), (true, 7), (true, 8), (true, 9), (true, 10), (true, 11), (true, 12), (true, 13), (true, 14), (true, 15), (true, 16), (true, 17), (true, 18)] (by kernel_rfl) ?_
  simp (maxDischargeDepth := 30) only [AA, ↓reduceIte, Nat.reduceLT, Nat.reduceEqDiff, Nat.reduceAdd, Nat.reduceMul, reduceCtorEq, Nat.reduceLeDiff, Int.reduceNe, Int.reduceEq, AMR, XH, F354_S4, hk, rp, np, ST4, st_32, e1, e2, e3, eh, A.tar]
  have q1 := q.fr hk f1
  have ow := owes_58 f1.ok (by rw [ex_next]; omega) q1.suite.sheet q1.hours.ls A.ok A.two A.hours A.at'
  rw [e1, e2, e3, eh] at ow
  refine W_callP ow ?_
  rintro _ h2 ⟨u, rfl, lu, f2⟩
  have f02 := f1.trans f2
  have rp2 := f02.row' hk rp
  have hr2 := f02.row' hk hrw
  have ra2 := f2.row' f1.ok (rx_at0 (h := h) (c := [.int .i64 i, .int .i64 b]) (s := 0) (o := true) (l := []) rfl)
  rcases lu with ⟨e0, _⟩ | ⟨bu, ou, su, cu, ru, rfl, hru, hyu⟩
  · rw [e0] at hx; simp at hx
  have y1 : ru[ou + i]? = some (.int .i64 x) := by simpa [ints] using (hyu _ x hx).2 0 (by omega)
  have liu := (List.getElem?_eq_some_iff.1 hx).1
  simp (maxDischargeDepth := 30) only [AA, ↓reduceIte, Nat.reduceLT, Nat.reduceEqDiff, Nat.reduceAdd, Nat.reduceMul, reduceCtorEq, Nat.reduceLeDiff, Int.reduceNe, Int.reduceEq, AMR, XH, F354_S4, f2.ok]
  refine W_draw [(true, 0), (true, 1), (true, 2), (true, 3), (true, 4), (true, 5), (true, 6), (true, 7), (true, 8), (true, 9), (true, 10), (true, 11), (true, 12), (true, 13), (true, 14), (true, 15), (true, 16), (true, 17)] (by kernel_rfl) ?_
  simp (maxDischargeDepth := 30) only [AA, ↓reduceIte, Nat.reduceLT, Nat.reduceEqDiff, Nat.reduceAdd, Nat.reduceMul, reduceCtorEq, Nat.reduceLeDiff, Int.reduceNe, Int.reduceEq, AMR, XH, F354_S4, f2.ok, ra2, rp2, ST4, e, li, hr2, x1, Nat.mul_one, w, liu, hru, y1]
  refine W_callPX (must_p _ _ f2.ok) ?_ ?_
  · rintro _ h3 ⟨hb, f3⟩
    simp (maxDischargeDepth := 30) only [AA, ↓reduceIte, Nat.reduceLT, Nat.reduceEqDiff, Nat.reduceAdd, Nat.reduceMul, reduceCtorEq, Nat.reduceLeDiff, Int.reduceNe, Int.reduceEq, AMR, XH, F354_S4, f3.ok, PostX_end]
    exact ⟨of_decide_eq_true hb, f02.trans f3⟩
  · rintro e h3 ⟨hb, nt, f3⟩
    simp only [PostX_panic]
    exact ⟨of_decide_eq_false hb, nt, f02.trans f3⟩
end Go.Am

namespace Go.Am
open Go Go.Proofs
inductive Ent where
  | give (i : Nat) (b : Int)
  | done (i : Nat)
  | hours (i : Nat) (n : Int)
  | deal (t : Nat)
  | pay (i : Nat) (c : Int)
def Ent.kind : Ent → Int
  | .give .. => 7
  | .done .. => 8
  | .hours .. => 9
  | .deal .. => 10
  | .pay .. => 11
def Ent.nums : Ent → List Int
  | .give i b => [(i : Int), b]
  | .done i => [(i : Int)]
  | .hours i n => [(i : Int), n]
  | .deal t => [(t : Int)]
  | .pay i c => [(i : Int), c]
def Ent.entry (x : Ent) : Entry := ⟨x.kind, x.nums⟩
def Ent.ty : Ent → TypeId
  | .give .. => 275
  | .done .. => 276
  | .hours .. => 278
  | .deal .. => 279
  | .pay .. => 281
def Ent.arg : Ent → Value
  | .give i b => .agg ⟨[.int .i64 i, .int .i64 b]⟩
  | .done i => .int .i64 i
  | .hours i n => .agg ⟨[.int .i64 i, .int .i64 n]⟩
  | .deal t => .int .i64 t
  | .pay i c => .agg ⟨[.int .i64 i, .int .i64 c]⟩
def Ent.gf : Ent → FuncId
  | .give .. => 351
  | .done .. => 250
  | .hours .. => 352
  | .deal .. => 353
  | .pay .. => 354
def Ent.app : Ent → Sta → Sta
  | .give i b, σ => { σ with hands := σ.hands.set i b }
  | .done i, σ => { σ with left := σ.left.erase i }
  | .hours i n, σ => { σ with hours := σ.hours.set i n }
  | .deal t, σ => { σ with tariff := t }
  | .pay i c, σ => { σ with paid := σ.paid.set i (σ.paid.getD i 0 + c) }
def Ent.Fit : Ent → Sta → Prop
  | .give i _, σ => i < σ.hands.length
  | .done i, σ => (i : Int) ∈ σ.left
  | .hours i _, σ => i < σ.hours.length
  | .deal _, _ => True
  | .pay i c, σ => i < σ.paid.length ∧ -1000000 ≤ σ.paid.getD i 0 + c ∧ σ.paid.getD i 0 + c ≤ 1000000
theorem meth_x (x : Ent) : findMethod CC x.ty "mahlstick/daybook.goes" = some x.gf := by cases x <;> kernel_rfl
theorem acted_x (x : Ent) {h : Heap} (hk : HOK h) {w : Value} (hw : LS h w x.nums ints 1) : CW CC 66 [.agg ⟨[.int .i64 x.kind, w]⟩] h fun r h' => r = .iface x.ty x.arg ∧ Fr h h' := by
  cases x with
  | give i b => exact acted_7 hk hw
  | done i => exact acted_8 hk hw
  | hours i n => exact acted_9 hk hw
  | deal t => exact acted_10 hk hw
  | pay i c => exact acted_11 hk hw
theorem at_getD {l : List Int} {i : Nat} (h : i < l.length) : l[i]? = some (l.getD i 0) := by
  rw [List.getD_eq_getElem?_getD, List.getElem?_eq_getElem h]; rfl
theorem does_x (x : Ent) {N : Nat} {h : Heap} {p : Nat} {σ : Sta} {v : StV} (hk : HOK h) (q : IsState N h p σ v) (f : x.Fit σ) : CW CC 158 [.pointer (some ⟨p, 0, none⟩), .iface x.ty x.arg] h fun _ h' => IsState N h' p (x.app σ) v ∧ Gr (v.Mut p) h h' := by
  cases x with
  | give i b => exact does_7 hk q (at_getD f)
  | done i => exact does_8 hk q f
  | hours i n => exact does_9 hk q (at_getD f)
  | deal t => exact does_10 hk q t
  | pay i c => exact does_11 hk q (at_getD f.1) f.2
theorem app_stands (x : Ent) (σ : Sta) (s : List Int) : x.app { σ with stands := s } = { x.app σ with stands := s } := by cases x <;> rfl
def runE (S : SuiteD) (l : List Ent) : Sta := l.foldl (fun σ x => x.app σ) (sta0 S)
theorem runE_snoc (S : SuiteD) (l : List Ent) (x : Ent) : runE S (l ++ [x]) = x.app (runE S l) := by unfold runE; rw [List.foldl_append]; rfl
def entT (S : SuiteD) (l : List Ent) (i : Nat) : Sta := { runE S (l.take i) with stands := upto i }
theorem entT0 (S : SuiteD) (l : List Ent) : entT S l 0 = sta0 S := rfl
inductive Went (S : SuiteD) : List Ent → Prop
  | nil : Went S []
  | snoc {l : List Ent} {x : Ent} : Went S l → x.Fit (runE S l) → Went S (l ++ [x])
theorem Went.at {S : SuiteD} {l : List Ent} (h : Went S l) : ∀ {i : Nat} {x : Ent}, l[i]? = some x → x.Fit (runE S (l.take i)) := by
  induction h with
  | nil => intro i x h; simp at h
  | @snoc l y _ f ih =>
    intro i x hx
    by_cases hi : i < l.length
    · rw [List.getElem?_append_left hi] at hx
      rw [List.take_append_of_le_length (by omega)]
      exact ih hx
    · have e : i = l.length := by have := (List.getElem?_eq_some_iff.1 hx).1; simp at this; omega
      subst e
      rw [List.getElem?_append_right (Nat.le_refl _)] at hx
      simp at hx
      subst hx
      rw [List.take_left]; exact f
theorem fit_stands {x : Ent} {σ : Sta} {s : List Int} (h : x.Fit σ) : x.Fit { σ with stands := s } := by cases x <;> exact h
theorem ent_does {S : SuiteD} {l : List Ent} (W : Went S l) {h : Heap} (hk : HOK h) {P : Nat → Prop} {evs : List EntryV} (he : LR (IsEntry P) h evs (l.map Ent.entry)) : Does h evs (entT S l) := by
  intro i u hu h1 p v k1 hp fr sv
  obtain ⟨e, he', hu1, hu2⟩ := he.get' hu
  rw [List.getElem?_map] at he'
  obtain ⟨x, hx, rfl⟩ := Option.map_eq_some_iff.1 he'
  refine ⟨.iface x.ty x.arg, ?_, fun h2 k2 f2 => ?_⟩
  · have := acted_x x k1 (hu2.1.fr hk fr)
    rw [show x.kind = u.kind from hu1.symm] at this
    exact this
  · have := does_x x k2 (sv.fr k1 f2) (fit_stands (W.at hx))
    have e : ({ entT S l (i + 1) with stands := (entT S l i).stands } : Sta) = x.app (entT S l i) := by
      show ({ runE S (l.take (i + 1)) with stands := upto i } : Sta) = x.app { runE S (l.take i) with stands := upto i }
      rw [app_stands, take_snoc hx, runE_snoc]
    rw [e]; exact this
set_option maxRecDepth 10000 in
theorem enter1_x (x : Ent) {P0 : Prop} {h : Heap} {p pe pst : Nat} (hk : HOK h) {w : Value} (hw : LS h w x.nums ints 1) (re : rowAt h pe = some [.int .i64 x.kind, w]) (rs : rowAt h pst = some [.pointer (some ⟨p, 0, none⟩)])
    (hg : ∀ h1, Fr h h1 → CX CC x.gf [x.arg, .pointer (some ⟨p, 0, none⟩)] h1 (fun _ h' => P0 ∧ Fr h1 h') fun e h' => ¬ P0 ∧ refused e ∧ Fr h1 h') :
    CX CC 65 [.pointer (some ⟨pe, 0, none⟩), .pointer (some ⟨pst, 0, none⟩)] h (fun _ h' => P0 ∧ Fr h h') fun e h' => ¬ P0 ∧ refused e ∧ Fr h h' := by
  obtain ⟨pw, cw, rfl⟩ := hw.len
  refine CX_in Tryz.f65 (by kernel_rfl) (by kernel_rfl) rfl rfl ?_
  simp only [Tryz.f65]
  refine W_draw [(true, 0), (true, 2), (true, 1), (false, 2), (true, 3)] (by kernel_rfl) ?_
  simp (maxDischargeDepth := 30) only [AA, ↓reduceIte, Nat.reduceLT, Nat.reduceEqDiff, Nat.reduceAdd, Nat.reduceMul, reduceCtorEq, Nat.reduceLeDiff, Int.reduceNe, Int.reduceEq, AMR, XH, ld_154, ld_80, hk, re, rs]
  refine W_callP (acted_x x hk hw) ?_
  rintro _ h1 ⟨rfl, f1⟩
  have re1 := f1.row' hk re
  have rs1 := f1.row' hk rs
  simp (maxDischargeDepth := 30) only [AA, ↓reduceIte, Nat.reduceLT, Nat.reduceEqDiff, Nat.reduceAdd, Nat.reduceMul, reduceCtorEq, Nat.reduceLeDiff, Int.reduceNe, Int.reduceEq, AMR, XH, ld_154, ld_80, f1.ok, rs1, callM_iface, meth_x]
  refine W_callPX (hg h1 f1) ?_ ?_
  · rintro _ h2 ⟨hm, f2⟩
    simp (maxDischargeDepth := 30) only [AA, ↓reduceIte, Nat.reduceLT, Nat.reduceEqDiff, Nat.reduceAdd, Nat.reduceMul, reduceCtorEq, Nat.reduceLeDiff, Int.reduceNe, Int.reduceEq, AMR, XH, ld_154, ld_80, f2.ok, PostX_end]
    exact ⟨hm, f1.trans f2⟩
  · rintro e h2 ⟨hm, nt, f2⟩
    simp only [PostX_panic]
    exact ⟨hm, nt, f1.trans f2⟩
end Go.Am

namespace Go.Am
open Go Go.Proofs
def F21_S6 := A2 @bld_80 <| A2 @fld_80_0 <| A2 @fld_80_1 <| A2 @fp_110_2 <| A2 @fp_80_0 <| A2 @fp_80_1 <| A2 @ix_108 <| A2 @ld_108 <| A2 @ld_22 <| A2 @ld_77 <| A2 @ld_80 <| A2 @len_108 <| A2 @part_80 <| A2 @size_108 <| A2 @size_154 <| A2 @size_80 <| A2 @sp_80_0 <| A2 @sp_80_1 <| A2 @und_108 <| A2 @und_154 <| A2 @zero_108 <| A2 @zero_154 @zero_80
theorem bs_ent (a b : Value) : aBuildSlice CC 108 1 [(0, .agg ⟨[a, b]⟩)] = some (.new (.row [a, b] 2 true) (sliceTo 2 1 1)) := by kernel_rfl
theorem sd_len (S : SuiteD) (w : DeskV) : (S.desk w).length = 37 := rfl
def DeskV.Next (w : DeskV) (h : Heap) (w' : DeskV) : Prop := ∃ nv u, w' = w.put nv u ∧ (∀ b, blkOf nv = some b → h.next ≤ b) ∧ ∀ b, blkOf u.nums = some b → h.next ≤ b
set_option maxRecDepth 10000 in
set_option maxHeartbeats 2000000 in
theorem enter_x (x : Ent) {P0 : Prop} {N d : Nat} {h : Heap} (hk : HOK h) (hp : 0 < h.next) {S : SuiteD} {l : List Ent} {w : DeskV} (D : IsDesk N h d S (l.map Ent.entry) w) (W : Went S l) (sm : S.Small) (ex1 : S.coats = exD.coats) (ex2 : S.bench = exD.bench) (ho : S.prices.offs.length ≤ 4) (hkn : l.length < 24) (fo : formed x.kind x.nums = true) {v : Value} (hv : LS h v x.nums ints 1)
    (hg : ∀ M h1 p sv, HOK h1 → 0 < h1.next → 0 < M → IsState M h1 p (entT S l l.length) sv → CX CC x.gf [x.arg, .pointer (some ⟨p, 0, none⟩)] h1 (fun _ h' => P0 ∧ Fr h1 h') fun e h' => ¬ P0 ∧ refused e ∧ Fr h1 h') :
    CW CC 21 [.pointer (some ⟨d, 0, none⟩), .agg ⟨[.int .i64 x.kind, v]⟩] h fun r h' =>
      ((P0 ∧ r = .int .i64 0 ∧ ∃ w', IsDesk N h' d S ((l ++ [x]).map Ent.entry) w' ∧ w.Next h w') ∨ (¬ P0 ∧ r = .int .i64 7 ∧ IsDesk N h' d S (l.map Ent.entry) w)) ∧ Gr (fun b => b = d ∨ blkOf w.ev = some b) h h' := by
  have xl : x.nums.length ≤ 2 := by cases x <;> simp [Ent.nums]
  have x13 : ∀ y : Ent, y.kind ≠ 13 := fun y => by cases y <;> simp [Ent.kind]
  have len : w.evs.length = l.length := by rw [D.nums.1]; simp
  obtain ⟨pv, cv, rfl⟩ := hv.len
  have n24 : decide ((w.evs.length : Int) ≥ 24) = false := decide_eq_false (by omega)
  refine CW_in Tryz.f21 (by kernel_rfl) (by kernel_rfl) rfl rfl ?_
  simp only [Tryz.f21]
  have f1 := ex_fr [.row [.int .i64 x.kind, .slice pv x.nums.length cv] 0 true] (Fr.refl hk)
  have g1 : (h.ex [.row [.int .i64 x.kind, .slice pv x.nums.length cv] 0 true]).get h.next = some (.row [.int .i64 x.kind, .slice pv x.nums.length cv] 0 true) := ex_at0 rfl
  have m1 : (h.ex [.row [.int .i64 x.kind, .slice pv x.nums.length cv] 0 true]).next = h.next + 1 := by rw [ex_next]; rfl
  simp (maxDischargeDepth := 30) only [AA, ↓reduceIte, Nat.reduceLT, Nat.reduceEqDiff, Nat.reduceAdd, Nat.reduceMul, reduceCtorEq, Nat.reduceLeDiff, Int.reduceNe, Int.reduceEq, XH, F21_S6, hk, is_d f1.ok (D.fr hk f1)]
  refine W_call (isFormed_p f1.ok (hv.fr hk f1) (by omega)) ?_
  rintro _ h2 ⟨rfl, f2⟩
  have f02 := f1.trans f2
  have D2 := D.fr hk f02
  have rd2 : rowAt h2 d = some (S.desk w) := by unfold rowAt; rw [D2.row]; rfl
  obtain ⟨pe, ce, eev⟩ := D.ent.value
  simp (maxDischargeDepth := 30) only [AA, ↓reduceIte, Nat.reduceLT, Nat.reduceEqDiff, Nat.reduceAdd, Nat.reduceMul, reduceCtorEq, Nat.reduceLeDiff, Int.reduceNe, Int.reduceEq, XH, F21_S6, f2.ok, fo, rd2, sd_ev, eev, n24]
  have n2 := f02.next
  refine W_call (stands_d f2.ok (by omega) D2 sm ex1 ex2 ho (by omega) (fun e he => by
    obtain ⟨j, hj⟩ := List.mem_iff_getElem?.1 he
    obtain ⟨e', he', hu⟩ := D.nums.get' hj
    rw [List.getElem?_map] at he'
    obtain ⟨y, _, rfl⟩ := Option.map_eq_some_iff.1 he'
    have e1 : e.kind = y.kind := hu.1
    rw [e1]; exact x13 y) (entT0 S l) (fun i => upto_succ i) (ent_does W f2.ok D2.nums)) ?_
  rintro _ h3 ⟨⟨p, sv, rfl, st⟩, f3⟩
  rw [len] at st
  have f03 := f02.trans f3
  have n3 := f03.next
  have g3 := f3.get' f2.ok (f2.get' f1.ok g1)
  have r3 : rowAt h3 h.next = some [.int .i64 x.kind, .slice pv x.nums.length cv] := by unfold rowAt; rw [g3]; rfl
  have f4 := ex_fr [.row [.pointer (some ⟨p, 0, none⟩)] 0 true] (Fr.refl f3.ok)
  have c4 : rowAt (h3.ex [.row [.pointer (some ⟨p, 0, none⟩)] 0 true]) h3.next = some [.pointer (some ⟨p, 0, none⟩)] := rx_at0 rfl
  simp (maxDischargeDepth := 30) only [AA, ↓reduceIte, Nat.reduceLT, Nat.reduceEqDiff, Nat.reduceAdd, Nat.reduceMul, reduceCtorEq, Nat.reduceLeDiff, Int.reduceNe, Int.reduceEq, XH, F21_S6, f3.ok]
  refine W_call (can_d (P0 := P0) f4.ok fun h5 f5 => enter1_x x f5.ok (((hv.fr hk f03).fr f3.ok f4).fr f4.ok f5) (f5.row' f4.ok (f4.row' f3.ok r3)) (f5.row' f4.ok c4) fun h6 f6 => hg _ h6 p sv f6.ok (by have := f6.next; have := f5.next; have := f4.next; omega) (by omega) (((st.fr f3.ok f4).fr f4.ok f5).fr f5.ok f6)) ?_
  rintro _ h5 ⟨hc, f5⟩
  have f05 := f03.trans (f4.trans f5)
  rcases hc with ⟨hm, rfl⟩ | ⟨hm, rfl⟩
  rotate_left
  · simp (maxDischargeDepth := 30) only [AA, ↓reduceIte, Nat.reduceLT, Nat.reduceEqDiff, Nat.reduceAdd, Nat.reduceMul, reduceCtorEq, Nat.reduceLeDiff, Int.reduceNe, Int.reduceEq, XH, F21_S6, f5.ok]
    exact ⟨.inr ⟨hm, trivial, D.fr hk f05⟩, f05.gr⟩
  have r5 := (f4.trans f5).row' f3.ok r3
  have D5 := D.fr hk f05
  have rd5 : rowAt h5 d = some (S.desk w) := by unfold rowAt; rw [D5.row]; rfl
  have n5 := f05.next
  have dl := get_lt hk D.row
  simp (maxDischargeDepth := 30) only [AA, ↓reduceIte, Nat.reduceLT, Nat.reduceEqDiff, Nat.reduceAdd, Nat.reduceMul, reduceCtorEq, Nat.reduceLeDiff, Int.reduceNe, Int.reduceEq, XH, F21_S6, f5.ok]
  refine W_draw [(true, 0), (true, 1), (true, 2), (true, 3), (true, 4), (true, 5), (true, 6), (true, 7), (true, 8), (true, 9), (false, 4), (false, 6), (true, 10), (true, 11), (true, 12), (true, 13), (true, 14), (true, 15)] (by kernel_rfl) ?_
  simp (maxDischargeDepth := 30) only [AA, ↓reduceIte, Nat.reduceLT, Nat.reduceEqDiff, Nat.reduceAdd, Nat.reduceMul, reduceCtorEq, Nat.reduceLeDiff, Int.reduceNe, Int.reduceEq, AMR, XH, F21_S6, f5.ok, r5, rd5, sd_ev, eev]
  refine W_callP (clone_ints.clone ints_len f5.ok (by omega) (hv.fr hk f05) (fun x _ => ints_all x) (by omega)) ?_
  rintro nv h6 ⟨q6, _, f6⟩
  have f06 := f05.trans f6
  have n6 := f06.next
  have D6 := D.fr hk f06
  obtain ⟨h7, e7, k7, g7, D7, gr7⟩ := desk_step f6.ok (by omega) D6 (by have := D.low; omega) x.kind (M := h5.next) q6 (by have := D.low; omega) (by omega) (by omega)
  obtain ⟨pn, cn, rfl⟩ := q6.value
  have r6 := f6.row' f5.ok r5
  have rd6 : rowAt h6 d = some (S.desk w) := by unfold rowAt; rw [D6.row]; rfl
  rw [eev] at e7
  simp (maxDischargeDepth := 30) only [AA, ↓reduceIte, Nat.reduceLT, Nat.reduceEqDiff, Nat.reduceAdd, Nat.reduceMul, reduceCtorEq, Nat.reduceLeDiff, Int.reduceNe, Int.reduceEq, AMR, XH, F21_S6, f6.ok, r6, rd6, sd_ev, eev, bs_ent, e7]
  have rd7 : rowAt h7 d = some (S.desk w) := by unfold rowAt; rw [g7]; rfl
  have se : sameV w.ev w.ev = true := by rw [eev]; exact same_slice _ _ _
  have w7 : write? (S.desk w) 36 [.slice (some ⟨h6.next + 1, 0, some 2⟩) (w.evs.length + 1) (w.evs.length + 1)] = some (S.desk (w.put (.slice (some ⟨h6.next + 1, 0, some 2⟩) (w.evs.length + 1) (w.evs.length + 1)) ⟨x.kind, .slice pn x.nums.length cn⟩)) := by
    rw [write_one _ _ _ (by rw [sd_len]; omega)]; rfl
  simp (maxDischargeDepth := 30) only [AA, ↓reduceIte, Nat.reduceLT, Nat.reduceEqDiff, Nat.reduceAdd, Nat.reduceMul, reduceCtorEq, Nat.reduceLeDiff, Int.reduceNe, Int.reduceEq, AMR, XH, F21_S6, k7, rd7, g7, sd_ev, eev, w7]
  rw [show List.map Ent.entry l ++ [({ kind := x.kind, nums := x.nums } : Entry)] = (l ++ [x]).map Ent.entry by rw [List.map_append]; rfl] at D7
  refine ⟨.inl ⟨hm, trivial, _, D7, _, _, rfl, fun b e => ?_, fun b e => ?_⟩, ?_⟩
  · simp [blkOf] at e; omega
  · have := (q6.blk_lt f6.ok e).1; omega
  · rw [← eev]; exact f06.gr.trans gr7
end Go.Am
