/- Parts S7, S8, S9, S10, S11 of the abstract machine over this program, joined: what each part says stands at its head. -/
import Derived.Test.YtlflfbnnjlkkcaaGreatJU13
set_option linter.unusedSimpArgs false
set_option linter.unusedVariables false
set_option linter.defProp false
namespace Go.Am
open Go Go.Proofs
def F15_S7 := A2 @bld_92 <| A2 @fld_92_0 <| A2 @fld_92_1 <| A2 @size_92 <| A2 @sp_92_0 <| A2 @sp_92_1 @zero_92
def F26_S7 := A2 @fp_92_0 <| A2 @fp_92_1 <| A2 @ia_182_0 <| A2 @ia_182_1 <| A2 @ia_182_2 <| A2 @ia_182_3 <| A2 @ia_182_4 <| A2 @ia_182_5 <| A2 @ia_182_6 <| A2 @ia_182_7 <| A2 @ld_22 <| A2 @ld_69 <| A2 @ld_92 <| A2 @part_181 <| A2 @size_181 <| A2 @size_182 <| A2 @und_182 <| A2 @xi_182_0 <| A2 @xi_182_1 <| A2 @xi_182_2 <| A2 @xi_182_3 <| A2 @xi_182_4 <| A2 @xi_182_5 <| A2 @xi_182_6 <| A2 @xi_182_7 @zero_182
def F31_S7 := A2 @ix_22 <| A2 @ld_3 <| A2 @len_22 <| A2 @part_3 <| A2 @size_22 <| A2 @size_3 <| A2 @und_22 @zero_22
set_option maxRecDepth 10000 in
theorem same_r (v w : Value) (l m : List Int) (h : Heap) (hk : HOK h) (hv : LS h v l ints 1) (hw : LS h w m ints 1) (hl : l.length ≤ 1000) (hm : m.length ≤ 1000) : CW CC 31 [v, w] h fun r h' => r = .bool (decide (l = m)) ∧ h' = h := by
  obtain ⟨p, c, rfl, hx⟩ := hv.open
  obtain ⟨p', c', rfl, hy⟩ := hw.open
  refine CW_in Tryz.f31 (by kernel_rfl) (by kernel_rfl) rfl rfl ?_
  simp only [Tryz.f31]
  by_cases hne : (l.length : Int) = m.length
  · have hne' : l.length = m.length := by omega
    simp (maxDischargeDepth := 30) only [AA, ↓reduceIte, Nat.reduceLT, Nat.reduceEqDiff, Nat.reduceAdd, Nat.reduceMul, reduceCtorEq, Nat.reduceLeDiff, Int.reduceNe, Int.reduceEq, F31_S7, hne, bne_self_eq_false]
    refine W_loop l.length (fun n f h' => ∃ i, i ≤ l.length ∧ n = l.length - i ∧ f 0 = .slice p l.length c ∧ f 1 = .slice p' m.length c' ∧ f 5 = .int .i64 i ∧ l.take i = m.take i ∧ h' = h) ⟨0, by omega, by omega, by simp [upd_at, argsFn_at, hne], by simp [upd_at, argsFn_at], by simp [upd_at], by simp, rfl⟩ ?_
    rintro n f h' ⟨i, hi, rfl, g0, g1, g5, ht, rfl⟩ ih
    by_cases hil : i < l.length
    · have him : i < m.length := by omega
      obtain ⟨x, gx⟩ : ∃ x, l[i]? = some x := ⟨_, List.getElem?_eq_getElem hil⟩
      obtain ⟨y, gy⟩ : ∃ y, m[i]? = some y := ⟨_, List.getElem?_eq_getElem him⟩
      rcases hx with hx | ⟨b2, o2, sp2, row2, rfl, rr2, x2⟩
      · rw [hx] at hil; simp at hil
      rcases hy with hy | ⟨b4, o4, sp4, row4, rfl, rr4, x4⟩
      · rw [hy] at him; simp at him
      have e1 : row2[o2 + i]? = some (.int .i64 x) := by simpa [ints] using (x2 _ _ gx).2 0 (by omega)
      have e2 : row4[o4 + i]? = some (.int .i64 y) := by simpa [ints] using (x4 _ _ gy).2 0 (by omega)
      have n2 := row_lt hk rr2
      have n4 := row_lt hk rr4
      simp (maxDischargeDepth := 30) only [AA, ↓reduceIte, Nat.reduceLT, Nat.reduceEqDiff, Nat.reduceAdd, Nat.reduceMul, reduceCtorEq, Nat.reduceLeDiff, Int.reduceNe, Int.reduceEq, F31_S7, g0, g1, g5, lt_t hil, hil, him]
      refine W_draw [(true, 0), (true, 1), (true, 2), (true, 3), (true, 4), (true, 5), (true, 6), (true, 7), (true, 8)] (by kernel_rfl) ?_
      cases hxy : (x != y) with
      | true =>
        simp (maxDischargeDepth := 30) only [AA, ↓reduceIte, Nat.reduceLT, Nat.reduceEqDiff, Nat.reduceAdd, Nat.reduceMul, reduceCtorEq, Nat.reduceLeDiff, Int.reduceNe, Int.reduceEq, AMR, F31_S7, hk, g0, g1, g5, hil, him, n2, n4, rr2, rr4, Nat.mul_one, e1, e2, hxy]
        refine ⟨?_, trivial⟩
        have : l ≠ m := fun e => by
          rw [e, gy] at gx
          simp at gx hxy
          exact hxy gx.symm
        simp [this]
      | false =>
        simp (maxDischargeDepth := 30) only [AA, ↓reduceIte, Nat.reduceLT, Nat.reduceEqDiff, Nat.reduceAdd, Nat.reduceMul, reduceCtorEq, Nat.reduceLeDiff, Int.reduceNe, Int.reduceEq, AMR, F31_S7, hk, g0, g1, g5, hil, him, n2, n4, rr2, rr4, Nat.mul_one, e1, e2, hxy, i_next hil hl]
        refine ih (l.length - (i + 1)) _ _ (by omega) ?_
        have hxy' : x = y := by simpa using hxy
        exact ⟨i + 1, by omega, rfl, by simp [upd_at, g0], by simp [upd_at, g1], by simp [upd_at], by rw [take_snoc gx, take_snoc gy, ht, hxy'], rfl⟩
    · have : i = l.length := by omega
      subst this
      simp (maxDischargeDepth := 30) only [AA, ↓reduceIte, Nat.reduceLT, Nat.reduceEqDiff, Nat.reduceAdd, Nat.reduceMul, reduceCtorEq, Nat.reduceLeDiff, Int.reduceNe, Int.reduceEq, F31_S7, g0, g1, g5, lt_f]
      rw [List.take_of_length_le (Nat.le_refl _), List.take_of_length_le (by omega)] at ht
      exact ⟨by simp [ht], trivial⟩
  · have hb : ((l.length : Int) != m.length) = true := by simpa using hne
    simp (maxDischargeDepth := 30) only [AA, ↓reduceIte, Nat.reduceLT, Nat.reduceEqDiff, Nat.reduceAdd, Nat.reduceMul, reduceCtorEq, Nat.reduceLeDiff, Int.reduceNe, Int.reduceEq, F31_S7, hb]
    refine ⟨?_, trivial⟩
    have : l ≠ m := fun e => hne (by rw [e])
    simp [this]
theorem topics_d {h : Heap} (hk : HOK h) : CW CC 78 [] h fun r h' => r = .agg ⟨[.func (.func 167) ⟨[]⟩ ⟨[]⟩, .func (.func 168) ⟨[]⟩ ⟨[]⟩, .func (.func 169) ⟨[]⟩ ⟨[]⟩, .func (.func 170) ⟨[]⟩ ⟨[]⟩, .func (.func 171) ⟨[]⟩ ⟨[]⟩, .func (.func 172) ⟨[]⟩ ⟨[]⟩, .func (.func 173) ⟨[]⟩ ⟨[]⟩, .func (.func 174) ⟨[]⟩ ⟨[]⟩, .func (.func 175) ⟨[]⟩ ⟨[]⟩, .func (.func 176) ⟨[]⟩ ⟨[]⟩, .func (.func 177) ⟨[]⟩ ⟨[]⟩, .func (.func 178) ⟨[]⟩ ⟨[]⟩, .func (.func 179) ⟨[]⟩ ⟨[]⟩, .func (.func 180) ⟨[]⟩ ⟨[]⟩, .func (.func 181) ⟨[]⟩ ⟨[]⟩, .func (.func 182) ⟨[]⟩ ⟨[]⟩]⟩ ∧ Fr h h' := by
  refine CW_in Tryz.f78 (by kernel_rfl) (by kernel_rfl) rfl rfl ?_
  simp only [Tryz.f78]
  simp (maxDischargeDepth := 30) only [AA, ↓reduceIte, Nat.reduceLT, Nat.reduceEqDiff, Nat.reduceAdd, Nat.reduceMul, reduceCtorEq, Nat.reduceLeDiff, Int.reduceNe, Int.reduceEq, XH, bld_182, ld_182, part_181, size_181, size_182, und_182, zero_182, hk]
  exact ⟨trivial, ex_fr _ (Fr.refl hk)⟩
theorem one_d (v : Value) (h : Heap) : callF CC (Lim CC) 247 [v] h = some (.ret v h none) := by
  refine CW.eq (CW_in Tryz.f247 (by kernel_rfl) (by kernel_rfl) rfl rfl ?_)
  simp only [Tryz.f247]
  simp (maxDischargeDepth := 30) only [AA, ↓reduceIte, Nat.reduceLT, Nat.reduceEqDiff, Nat.reduceAdd, Nat.reduceMul, reduceCtorEq, Nat.reduceLeDiff, Int.reduceNe, Int.reduceEq, L_nil]
def Que (k : Int) (g : FuncId) (n : Nat) : Prop := (k = 10 ∧ g = 176 ∧ n = 0) ∨ (k = 11 ∧ g = 177 ∧ n = 0) ∨ (k = 13 ∧ g = 179 ∧ n = 1) ∨ (k = 14 ∧ g = 180 ∧ n = 1)
theorem isAsked_x {k : Int} {g : FuncId} {h : Heap} (hk : HOK h) {w : Value} {l : List Int} (hw : LS h w l ints 1) (K : Que k g l.length) : CW CC 77 [.agg ⟨[.int .i64 k, w]⟩] h fun r h' => r = .bool true ∧ Fr h h' := by
  obtain ⟨pw, cw, rfl⟩ := hw.len
  have i0 : inP ((0 : Nat) : Int) 0 0 = true := rfl
  have i1 : inP ((1 : Nat) : Int) 1 1 = true := rfl
  rcases K with ⟨rfl, rfl, e⟩ | ⟨rfl, rfl, e⟩ | ⟨rfl, rfl, e⟩ | ⟨rfl, rfl, e⟩ <;>
  · rw [e]
    refine CW_in Tryz.f77 (by kernel_rfl) (by kernel_rfl) rfl rfl ?_
    simp only [Tryz.f77]
    simp (maxDischargeDepth := 30) only [AA, ↓reduceIte, Nat.reduceLT, Nat.reduceEqDiff, Nat.reduceAdd, Nat.reduceMul, reduceCtorEq, Nat.reduceLeDiff, Int.reduceNe, Int.reduceEq, XH, fp_92_0, fp_92_1, ld_22, ld_69, len_22, hk, Int.reduceBEq, beq_self_eq_true, Int.reduceLE, Int.reduceGE, ge_iff_le, in_d, i0, i1]
    exact ⟨trivial, ex_fr _ (Fr.refl hk)⟩
section
variable (a0 a1 a2 a3 a4 a5 a6 a7 a8 a9 a10 a11 a12 a13 a14 a15 : Value)
theorem ai_9 : aIndex CC 182 (.agg ⟨[a0, a1, a2, a3, a4, a5, a6, a7, a8, a9, a10, a11, a12, a13, a14, a15]⟩) (.int .i64 9) = some a9 := by kernel_rfl
theorem ai_10 : aIndex CC 182 (.agg ⟨[a0, a1, a2, a3, a4, a5, a6, a7, a8, a9, a10, a11, a12, a13, a14, a15]⟩) (.int .i64 10) = some a10 := by kernel_rfl
theorem ai_12 : aIndex CC 182 (.agg ⟨[a0, a1, a2, a3, a4, a5, a6, a7, a8, a9, a10, a11, a12, a13, a14, a15]⟩) (.int .i64 12) = some a12 := by kernel_rfl
theorem ai_13 : aIndex CC 182 (.agg ⟨[a0, a1, a2, a3, a4, a5, a6, a7, a8, a9, a10, a11, a12, a13, a14, a15]⟩) (.int .i64 13) = some a13 := by kernel_rfl
end
set_option maxRecDepth 10000 in
set_option maxHeartbeats 4000000 in
theorem ask_x {k : Int} {g : FuncId} {N d : Nat} {h : Heap} (hk : HOK h) (hp : 0 < h.next) {S : SuiteD} {l : List Ent} {w : DeskV} (D : IsDesk N h d S (l.map Ent.entry) w) (W : Went S l) (sm : S.Small) (ex1 : S.coats = exD.coats) (ex2 : S.bench = exD.bench) (ho : S.prices.offs.length ≤ 4) (hkn : l.length ≤ 24) {v : Value} {nums : List Int} (hv : LS h v nums ints 1) (K : Que k g nums.length) {out : List Int} (hout : out.length ≤ 1000)
    (hF : ∀ M h1 p sv u, HOK h1 → 0 < h1.next → 0 < M → IsState M h1 p (entT S l l.length) sv → LS h1 u nums ints 1 → CW CC g [.pointer (some ⟨p, 0, none⟩), u] h1 fun r h' => (∃ u, r = .tuple ⟨[u, .int .i64 0]⟩ ∧ LS h' u out ints 1) ∧ Fr h1 h') :
    CW CC 26 [.pointer (some ⟨d, 0, none⟩), .agg ⟨[.int .i64 k, v]⟩] h fun r h' => (∃ u, r = .tuple ⟨[u, .int .i64 0]⟩ ∧ SL h.next h' u (out.flatMap ints) 1 out.length) ∧ Fr h h' := by
  have x13 : ∀ y : Ent, y.kind ≠ 13 := fun y => by cases y <;> simp [Ent.kind]
  have nl : nums.length ≤ 1 := by rcases K with ⟨_, _, e⟩ | ⟨_, _, e⟩ | ⟨_, _, e⟩ | ⟨_, _, e⟩ <;> omega
  have len : w.evs.length = l.length := by rw [D.nums.1]; simp
  obtain ⟨pv, cv, rfl⟩ := hv.len
  refine CW_in Tryz.f26 (by kernel_rfl) (by kernel_rfl) rfl rfl ?_
  simp only [Tryz.f26]
  have f1 := ex_fr [.row [.int .i64 k, .slice pv nums.length cv] 0 true] (Fr.refl hk)
  have g1 : rowAt (h.ex [.row [.int .i64 k, .slice pv nums.length cv] 0 true]) h.next = some [.int .i64 k, .slice pv nums.length cv] := rx_at0 rfl
  simp (maxDischargeDepth := 30) only [AA, ↓reduceIte, Nat.reduceLT, Nat.reduceEqDiff, Nat.reduceAdd, Nat.reduceMul, reduceCtorEq, Nat.reduceLeDiff, Int.reduceNe, Int.reduceEq, XH, F26_S7, hk, is_d f1.ok (D.fr hk f1)]
  refine W_call (isAsked_x f1.ok (hv.fr hk f1) K) ?_
  rintro _ h2 ⟨rfl, f2⟩
  have f02 := f1.trans f2
  have r2 := f2.row' f1.ok g1
  simp (maxDischargeDepth := 30) only [AA, ↓reduceIte, Nat.reduceLT, Nat.reduceEqDiff, Nat.reduceAdd, Nat.reduceMul, reduceCtorEq, Nat.reduceLeDiff, Int.reduceNe, Int.reduceEq, XH, F26_S7, f2.ok]
  refine W_draw [(true, 1), (true, 2), (true, 3), (true, 5), (true, 7), (true, 8), (true, 0), (false, 2), (false, 8), (true, 4), (true, 6), (false, 2), (false, 8), (true, 9), (false, 2), (true, 10), (true, 11), (true, 12), (true, 13), (true, 14), (true, 15)] (by kernel_rfl) ?_
  simp (maxDischargeDepth := 30) only [AA, ↓reduceIte, Nat.reduceLT, Nat.reduceEqDiff, Nat.reduceAdd, Nat.reduceMul, reduceCtorEq, Nat.reduceLeDiff, Int.reduceNe, Int.reduceEq, AMR, XH, F26_S7, f2.ok, r2]
  refine W_callP (topics_d f2.ok) ?_
  rintro _ h3 ⟨rfl, f3⟩
  have f03 := f02.trans f3
  have r3 := f3.row' f2.ok r2
  have n3 := f03.next
  have D3 := D.fr hk f03
  have w1 : IntKind.i64.wrap ((10 : Int) - 1) = 9 ∧ IntKind.i64.wrap ((11 : Int) - 1) = 10 ∧ IntKind.i64.wrap ((13 : Int) - 1) = 12 ∧ IntKind.i64.wrap ((14 : Int) - 1) = 13 := ⟨rfl, rfl, rfl, rfl⟩
  have sf : ∀ f : FuncId, sameV (.func (.func f) ⟨[]⟩ ⟨[]⟩) (.func (.func f) ⟨[]⟩ ⟨[]⟩) = true := fun f => sameV_func rfl rfl
  rcases K with ⟨rfl, rfl, e⟩ | ⟨rfl, rfl, e⟩ | ⟨rfl, rfl, e⟩ | ⟨rfl, rfl, e⟩ <;>
  · simp (maxDischargeDepth := 30) only [AA, ↓reduceIte, Nat.reduceLT, Nat.reduceEqDiff, Nat.reduceAdd, Nat.reduceMul, reduceCtorEq, Nat.reduceLeDiff, Int.reduceNe, Int.reduceEq, AMR, XH, F26_S7, f3.ok, r3, w1, sf, ai_9, ai_10, ai_12, ai_13]
    refine W_callP (stands_d f3.ok (by omega) D3 sm ex1 ex2 ho (by omega) (fun e he => by
      obtain ⟨j, hj⟩ := List.mem_iff_getElem?.1 he
      obtain ⟨e', he', hu⟩ := D.nums.get' hj
      rw [List.getElem?_map] at he'
      obtain ⟨y, _, rfl⟩ := Option.map_eq_some_iff.1 he'
      have e1 : e.kind = y.kind := hu.1
      rw [e1]; exact x13 y) (entT0 S l) (fun i => upto_succ i) (ent_does W f3.ok D3.nums)) ?_
    rintro _ h4 ⟨⟨p, sv, rfl, st⟩, f4⟩
    rw [len] at st
    have f04 := f03.trans f4
    have r4 := f4.row' f3.ok r3
    have n4 := f04.next
    simp (maxDischargeDepth := 30) only [AA, ↓reduceIte, Nat.reduceLT, Nat.reduceEqDiff, Nat.reduceAdd, Nat.reduceMul, reduceCtorEq, Nat.reduceLeDiff, Int.reduceNe, Int.reduceEq, AMR, XH, F26_S7, f4.ok, r4, w1, sf, ai_9, ai_10, ai_12, ai_13]
    refine W_callP (clone_ints.clone ints_len f4.ok (by omega) (hv.fr hk f04) (fun x _ => ints_all x) (by omega)) ?_
    rintro nv h5 ⟨q5, _, f5⟩
    have r5 := f5.row' f4.ok r4
    have f05 := f04.trans f5
    have n5 := f05.next
    obtain ⟨pn, cn, env⟩ := q5.value
    have ls5 := q5.ls ints_len
    have sn : sameV nv nv = true := by rw [env]; exact same_slice _ _ _
    simp (maxDischargeDepth := 30) only [AA, ↓reduceIte, Nat.reduceLT, Nat.reduceEqDiff, Nat.reduceAdd, Nat.reduceMul, reduceCtorEq, Nat.reduceLeDiff, Int.reduceNe, Int.reduceEq, AMR, XH, F26_S7, f5.ok, r5, w1, sf, ai_9, ai_10, ai_12, ai_13, sn, V_func, V_clo, List.append_nil, List.nil_append, List.cons_append]
    refine W_callP (hF _ h5 p sv nv f5.ok (by omega) (by omega) (st.fr f4.ok f5) ls5) ?_
    rintro _ h6 ⟨⟨u, rfl, lu⟩, f6⟩
    have f06 := f05.trans f6
    have n6 := f06.next
    obtain ⟨pu, cu, rfl⟩ := lu.len
    simp (maxDischargeDepth := 30) only [AA, ↓reduceIte, Nat.reduceLT, Nat.reduceEqDiff, Nat.reduceAdd, Nat.reduceMul, reduceCtorEq, Nat.reduceLeDiff, Int.reduceNe, Int.reduceEq, AMR, XH, F26_S7, f6.ok, show ((0 : Int) != 0) = false from rfl]
    refine W_call (clone_ints.clone ints_len f6.ok (by omega) lu (fun x _ => ints_all x) (by omega)) ?_
    rintro rv h7 ⟨q7, _, f7⟩
    simp (maxDischargeDepth := 30) only [AA, ↓reduceIte, Nat.reduceLT, Nat.reduceEqDiff, Nat.reduceAdd, Nat.reduceMul, reduceCtorEq, Nat.reduceLeDiff, Int.reduceNe, Int.reduceEq, AMR, XH, F26_S7, f7.ok]
    exact ⟨⟨rv, rfl, q7.low (by omega)⟩, f06.trans f7⟩
set_option maxRecDepth 10000 in
theorem told_x {k : Int} {g : FuncId} {N d : Nat} {h : Heap} (hk : HOK h) (hp : 0 < h.next) {S : SuiteD} {l : List Ent} {w : DeskV} (D : IsDesk N h d S (l.map Ent.entry) w) (W : Went S l) (sm : S.Small) (ex1 : S.coats = exD.coats) (ex2 : S.bench = exD.bench) (ho : S.prices.offs.length ≤ 4) (hkn : l.length ≤ 24) {v u : Value} {nums : List Int} (hv : LS h v nums ints 1) (K : Que k g nums.length) {out : List Int} (hout : out.length ≤ 1000) (hu : LS h u out ints 1)
    (hF : ∀ M h1 p sv u, HOK h1 → 0 < h1.next → 0 < M → IsState M h1 p (entT S l l.length) sv → LS h1 u nums ints 1 → CW CC g [.pointer (some ⟨p, 0, none⟩), u] h1 fun r h' => (∃ u, r = .tuple ⟨[u, .int .i64 0]⟩ ∧ LS h' u out ints 1) ∧ Fr h1 h') :
    CW CC 15 [.pointer (some ⟨d, 0, none⟩), .int .i64 k, v, u] h fun r h' => r = .bool true ∧ Fr h h' := by
  obtain ⟨pv, cv, rfl⟩ := hv.len
  obtain ⟨pu, cu, rfl⟩ := hu.len
  refine CW_in Tryz.f15 (by kernel_rfl) (by kernel_rfl) rfl rfl ?_
  simp only [Tryz.f15]
  simp (maxDischargeDepth := 30) only [AA, ↓reduceIte, Nat.reduceLT, Nat.reduceEqDiff, Nat.reduceAdd, Nat.reduceMul, reduceCtorEq, Nat.reduceLeDiff, Int.reduceNe, Int.reduceEq, XH, F15_S7, hk]
  refine W_call (ask_x hk hp D W sm ex1 ex2 ho hkn hv K hout hF) ?_
  rintro _ h1 ⟨⟨r, rfl, lr⟩, f1⟩
  simp (maxDischargeDepth := 30) only [AA, ↓reduceIte, Nat.reduceLT, Nat.reduceEqDiff, Nat.reduceAdd, Nat.reduceMul, reduceCtorEq, Nat.reduceLeDiff, Int.reduceNe, Int.reduceEq, XH, F15_S7, f1.ok, show ((0 : Int) == 0) = true from rfl]
  refine W_call (same_r _ _ out out h1 f1.ok (SL.ls ints_len lr) (hu.fr hk f1) hout hout) ?_
  rintro _ _ ⟨rfl, rfl⟩
  simp (maxDischargeDepth := 30) only [AA, ↓reduceIte, Nat.reduceLT, Nat.reduceEqDiff, Nat.reduceAdd, Nat.reduceMul, reduceCtorEq, Nat.reduceLeDiff, Int.reduceNe, Int.reduceEq, XH, F15_S7, f1.ok]
  exact ⟨by simp, f1⟩
set_option maxRecDepth 10000 in
theorem entered_x (x : Ent) {P0 : Prop} {N d : Nat} {h : Heap} (hk : HOK h) (hp : 0 < h.next) {S : SuiteD} {l : List Ent} {w : DeskV} (D : IsDesk N h d S (l.map Ent.entry) w) (W : Went S l) (sm : S.Small) (ex1 : S.coats = exD.coats) (ex2 : S.bench = exD.bench) (ho : S.prices.offs.length ≤ 4) (hkn : l.length < 24) (fo : formed x.kind x.nums = true) {v : Value} (hv : LS h v x.nums ints 1) (hP : P0)
    (hg : ∀ M h1 p sv, HOK h1 → 0 < h1.next → 0 < M → IsState M h1 p (entT S l l.length) sv → CX CC x.gf [x.arg, .pointer (some ⟨p, 0, none⟩)] h1 (fun _ h' => P0 ∧ Fr h1 h') fun e h' => ¬ P0 ∧ refused e ∧ Fr h1 h') :
    CW CC 20 [.pointer (some ⟨d, 0, none⟩), .int .i64 x.kind, v] h fun r h' => r = .bool true ∧ (∃ w', IsDesk N h' d S ((l ++ [x]).map Ent.entry) w' ∧ w.Next h w') ∧ Gr (fun b => b = d ∨ blkOf w.ev = some b) h h' := by
  obtain ⟨pv, cv, rfl⟩ := hv.len
  refine CW_in Tryz.f20 (by kernel_rfl) (by kernel_rfl) rfl rfl ?_
  simp only [Tryz.f20]
  simp (maxDischargeDepth := 30) only [AA, ↓reduceIte, Nat.reduceLT, Nat.reduceEqDiff, Nat.reduceAdd, Nat.reduceMul, reduceCtorEq, Nat.reduceLeDiff, Int.reduceNe, Int.reduceEq, XH, bld_80, fld_80_0, fld_80_1, size_80, sp_80_0, sp_80_1, zero_80, hk]
  refine W_call (enter_x x hk hp D W sm ex1 ex2 ho hkn fo hv hg) ?_
  rintro _ h1 ⟨hc, g1⟩
  rcases hc with ⟨_, rfl, hw⟩ | ⟨hn, _⟩
  · simp (maxDischargeDepth := 30) only [AA, ↓reduceIte, Nat.reduceLT, Nat.reduceEqDiff, Nat.reduceAdd, Nat.reduceMul, reduceCtorEq, Nat.reduceLeDiff, Int.reduceNe, Int.reduceEq, XH, bld_80, fld_80_0, fld_80_1, size_80, sp_80_0, sp_80_1, zero_80, g1.ok, show ((0 : Int) == 0) = true from rfl]
    exact ⟨trivial, hw, g1⟩
  · exact absurd hP hn
end Go.Am

namespace Go.Am
open Go Go.Proofs
def F179_S8 := A2 @bs_22 <| A2 @fp_257_0 <| A2 @fp_257_6 <| A2 @fp_257_7 <| A2 @fp_257_8 <| A2 @fp_49_6 <| A2 @ix_22 <| A2 @ld_22 <| A2 @ld_3 <| A2 @ld_47 <| A2 @len_22 <| A2 @part_3 <| A2 @size_22 <| A2 @size_3 <| A2 @und_22 @zero_22
def F180_S8 := A2 @bs_22 <| A2 @fp_257_8 <| A2 @ix_22 <| A2 @ld_22 <| A2 @ld_3 <| A2 @len_22 <| A2 @part_3 <| A2 @size_22 <| A2 @size_3 <| A2 @und_22 @zero_22
set_option maxRecDepth 10000 in
theorem askPaid_d {N : Nat} {h : Heap} {p : Nat} {σ : Sta} {v : StV} (hk : HOK h) (q : IsState N h p σ v) {w : Value} {i : Nat} {x : Int} (hw : LS h w [(i : Int)] ints 1) (hx : σ.paid[i]? = some x) (hn : σ.paid.length ≤ 1000) :
    CW CC 180 [.pointer (some ⟨p, 0, none⟩), w] h fun r h' => (∃ u, r = .tuple ⟨[u, .int .i64 0]⟩ ∧ LS h' u [x] ints 1) ∧ Fr h h' := by
  have rp : rowAt h p = some (σ.cells v) := by unfold rowAt; rw [q.row]; rfl
  obtain ⟨b, o, sp, c, row, rfl, hr, c1⟩ := ints_1 hw
  obtain ⟨bs, sps, cs, e2, hg, hrs, hi, c2, _⟩ := q.paid.row hx
  have w1 : IntKind.i64.wrap ((σ.paid.length : Int) - 1) = (σ.paid.length : Int) - 1 := wrap64 (by omega) (by omega)
  have i1 : inP (i : Int) 0 ((σ.paid.length : Int) - 1) = true := decide_eq_true (by omega)
  have l1 : (0 : Nat) < 1 := by omega
  refine CW_in Tryz.f180 (by kernel_rfl) (by kernel_rfl) rfl rfl ?_
  simp only [Tryz.f180]
  simp (maxDischargeDepth := 30) only [AA, ↓reduceIte, Nat.reduceLT, Nat.reduceEqDiff, Nat.reduceAdd, Nat.reduceMul, reduceCtorEq, Nat.reduceLeDiff, Int.reduceNe, Int.reduceEq, XH, F180_S8, hk]
  refine W_draw [(true, 0), (true, 1), (true, 2), (true, 3), (true, 4), (true, 5), (true, 6), (true, 7), (true, 8), (true, 9), (true, 10)] (by kernel_rfl) ?_
  simp (maxDischargeDepth := 30) only [AA, ↓reduceIte, Nat.reduceLT, Nat.reduceEqDiff, Nat.reduceAdd, Nat.reduceMul, reduceCtorEq, Nat.reduceLeDiff, Int.reduceNe, Int.reduceEq, AMR, XH, F180_S8, hk, hr, c1, rp, ST4, e2, w1, in_d, i1, ix_0 l1]
  refine W_draw [(true, 0), (true, 1), (true, 2), (true, 3), (true, 4), (true, 5), (true, 6), (true, 7), (true, 8), (true, 9), (true, 10), (true, 11), (true, 12)] (by kernel_rfl) ?_
  simp (maxDischargeDepth := 30) only [AA, ↓reduceIte, Nat.reduceLT, Nat.reduceEqDiff, Nat.reduceAdd, Nat.reduceMul, reduceCtorEq, Nat.reduceLeDiff, Int.reduceNe, Int.reduceEq, AMR, XH, F180_S8, hk, hr, c1, rp, ST4, e2, ix_0 l1, hi, hrs, c2, one_d, Nat.mul_one]
  exact ⟨⟨_, rfl, LS.of_row (xs := [x]) ints_len (rx_at0 rfl)⟩, ex_fr _ (Fr.refl hk)⟩
set_option maxRecDepth 10000 in
theorem askOwes_d {N : Nat} {h : Heap} {p : Nat} {σ : Sta} {v : StV} (hk : HOK h) (h0 : 0 < h.next) (q : IsState N h p σ v) {w : Value} {i k : Nat} {x : Int} {t : Tar} (A : Agreed σ k t) (hw : LS h w [(i : Int)] ints 1) (hx : (owesS σ t)[i]? = some x) (hi : i < σ.paid.length) (hn : σ.paid.length ≤ 1000) :
    CW CC 179 [.pointer (some ⟨p, 0, none⟩), w] h fun r h' => (∃ u, r = .tuple ⟨[u, .int .i64 0]⟩ ∧ LS h' u [x] ints 1) ∧ Fr h h' := by
  unfold owesS at hx
  have rp : rowAt h p = some (σ.cells v) := by unfold rowAt; rw [q.row]; rfl
  have np := row_lt hk rp
  obtain ⟨b, o, sp, c, row, rfl, hr, c1⟩ := ints_1 hw
  obtain ⟨bs, sps, cs, e2, hg, hrs, _, c2, _⟩ := q.paid.row (at_getD hi)
  have w1 : IntKind.i64.wrap ((σ.paid.length : Int) - 1) = (σ.paid.length : Int) - 1 := wrap64 (by omega) (by omega)
  have i1 : inP (i : Int) 0 ((σ.paid.length : Int) - 1) = true := decide_eq_true (by omega)
  have l1 : (0 : Nat) < 1 := by omega
  have ag := agreed_d hk q (by rw [A.tar]; omega) A.no A.len
  obtain ⟨ph, ch, eh⟩ := q.hours.ls.len
  obtain ⟨p1, c1', e1⟩ := q.suite.of.1.len
  obtain ⟨p2, c2', e2'⟩ := q.suite.bd.1.len
  obtain ⟨p3, c3', e3⟩ := q.suite.tr.1.len
  refine CW_in Tryz.f179 (by kernel_rfl) (by kernel_rfl) rfl rfl ?_
  simp only [Tryz.f179]
  simp (maxDischargeDepth := 30) only [AA, ↓reduceIte, Nat.reduceLT, Nat.reduceEqDiff, Nat.reduceAdd, Nat.reduceMul, reduceCtorEq, Nat.reduceLeDiff, Int.reduceNe, Int.reduceEq, XH, F179_S8, hk]
  refine W_draw [(true, 0), (true, 1), (true, 2), (true, 3), (true, 4), (true, 5), (true, 6), (true, 7), (true, 8), (true, 9), (true, 10)] (by kernel_rfl) ?_
  simp (maxDischargeDepth := 30) only [AA, ↓reduceIte, Nat.reduceLT, Nat.reduceEqDiff, Nat.reduceAdd, Nat.reduceMul, reduceCtorEq, Nat.reduceLeDiff, Int.reduceNe, Int.reduceEq, AMR, XH, F179_S8, hk, hr, c1, rp, ST4, e2, w1, in_d, i1, ix_0 l1, ag]
  refine W_draw [(true, 0), (true, 1), (true, 2), (true, 3), (true, 4), (true, 5), (true, 6), (true, 7), (true, 8), (true, 9), (true, 10), (true, 11), (true, 12), (true, 13), (true, 14), (true, 15), (true, 16), (true, 17), (true, 18)] (by kernel_rfl) ?_
  simp (maxDischargeDepth := 30) only [AA, ↓reduceIte, Nat.reduceLT, Nat.reduceEqDiff, Nat.reduceAdd, Nat.reduceMul, reduceCtorEq, Nat.reduceLeDiff, Int.reduceNe, Int.reduceEq, AMR, XH, F179_S8, hk, rp, np, ST4, st_32, e1, e2', e3, eh, A.tar]
  have ow := owes_58 hk h0 q.suite.sheet q.hours.ls A.ok A.two A.hours A.at'
  rw [e1, e2', e3, eh] at ow
  refine W_callP ow ?_
  rintro _ h2 ⟨u, rfl, lu, f2⟩
  have hr2 := f2.row' hk hr
  rcases lu with ⟨e0, _⟩ | ⟨bu, ou, su, cu, ru, rfl, hru, hyu⟩
  · rw [e0] at hx; simp at hx
  have y1 : ru[ou + i]? = some (.int .i64 x) := by simpa [ints] using (hyu _ x hx).2 0 (by omega)
  have liu := (List.getElem?_eq_some_iff.1 hx).1
  simp (maxDischargeDepth := 30) only [AA, ↓reduceIte, Nat.reduceLT, Nat.reduceEqDiff, Nat.reduceAdd, Nat.reduceMul, reduceCtorEq, Nat.reduceLeDiff, Int.reduceNe, Int.reduceEq, AMR, XH, F179_S8, f2.ok, hr2, c1, ix_0 l1, liu, hru, y1, Nat.mul_one, one_d, show ((0 : Int) != 0) = false from rfl]
  exact ⟨⟨_, rfl, LS.of_row (xs := [x]) ints_len (rx_at0 rfl)⟩, ex_fr _ f2⟩
end Go.Am

namespace Go.Am
open Go Go.Proofs
def F177_S9 := A2 @bs_22 <| A2 @fp_257_0 <| A2 @fp_257_5 <| A2 @fp_25_0 <| A2 @fp_25_1 <| A2 @fp_49_3 <| A2 @ix_22 <| A2 @ix_29 <| A2 @ld_22 <| A2 @ld_25 <| A2 @ld_3 <| A2 @ld_38 <| A2 @len_29 <| A2 @part_25 <| A2 @part_3 <| A2 @size_22 <| A2 @size_25 <| A2 @size_29 <| A2 @size_3 <| A2 @und_22 <| A2 @und_29 <| A2 @zero_22 <| A2 @zero_25 @zero_29
theorem one_slIs {h : Heap} {P : Nat → Prop} {v : Value} {x : Int} (q : LP P h v [x] ints 1) (T : DT) (hT : matchT h false T [.int .i64 x] = true) : slIs h false 1 1 (matchT h false T) v = true := slIs_of q.1 (by simp) (by omega) rfl hT
noncomputable def strokesDT : DT := plI [1] (.pl (.bool true) (plI [2, 2] (.pl (.slice none 0 0) (plI [0] (.pl (.bool false) (plI [2, 3] (.pl (.slice none 0 0) (plI [0] (.pl (.bool true) (plI [1, 2] (.sl 1 1 (plI [1] .nil) (plI [1] (.pl (.bool false) (plI [1, 3] (.sl 1 1 (plI [0] .nil) .nil)))))))))))))))
theorem bench_match {P : Nat → Prop} {h : Heap} {u : SuiteV} {S : SuiteD} (q : IsSuite P h u S) (e : S.bench = exD.bench) : matchT h false (dtOf benchCheck0A) [.int .i64 1, u.bo, u.st] = true := by
  have h1 := q.bo.1
  obtain ⟨us, h2, h3⟩ := q.st
  rw [e] at h1 h3
  have l4 : us.length = 4 := h3.1
  match us, l4 with
  | [x0, x1, x2, x3], _ =>
  have r0 := h3.2 0 x0 _ rfl rfl
  have r1 := h3.2 1 x1 _ rfl rfl
  have r2 := h3.2 2 x2 _ rfl rfl
  have r3 := h3.2 3 x3 _ rfl rfl
  clear h3
  obtain ⟨b0, t0, l0, i0, n0⟩ := x0
  obtain ⟨b1, t1, l1, i1, n1⟩ := x1
  obtain ⟨b2, t2, l2, i2, n2⟩ := x2
  obtain ⟨b3, t3, l3, i3, n3⟩ := x3
  obtain ⟨rfl, rfl, rfl, rfl, _, z0⟩ := r0
  obtain ⟨rfl, rfl, rfl, rfl, _, z1⟩ := r1
  obtain ⟨rfl, rfl, rfl, rfl, m2, _⟩ := r2
  obtain ⟨rfl, rfl, rfl, rfl, m3, _⟩ := r3
  have z0 : n0 = .slice none 0 0 := z0 rfl
  have z1 : n1 = .slice none 0 0 := z1 rfl
  subst z0
  subst z1
  have w2 := one_slIs m2 (plI [1] .nil) (by kernel_rfl)
  have w3 := one_slIs m3 (plI [0] .nil) (by kernel_rfl)
  have v1 : slIs h false 2 1 (matchT h false (plI [5, 6] .nil)) u.bo = true := slIs_of h1 (by simp [exD]) (by omega) rfl (by kernel_rfl)
  have v2 : slIs h false 4 5 (matchT h false strokesDT) u.st = true := slIs_of h2.1 (by simp) (by omega) rfl (by
    show (samePl (.int .i64 1) (.int .i64 1) && (samePl (.bool true) (.bool true) && (samePl (.int .i64 2) (.int .i64 2) && (samePl (.int .i64 2) (.int .i64 2) && (samePl (.slice none 0 0) (.slice none 0 0) && (samePl (.int .i64 0) (.int .i64 0) && (samePl (.bool false) (.bool false) && (samePl (.int .i64 2) (.int .i64 2) && (samePl (.int .i64 3) (.int .i64 3) && (samePl (.slice none 0 0) (.slice none 0 0) && (samePl (.int .i64 0) (.int .i64 0) && (samePl (.bool true) (.bool true) && (samePl (.int .i64 1) (.int .i64 1) && (samePl (.int .i64 2) (.int .i64 2) && (slIs h false 1 1 (matchT h false (plI [1] .nil)) n2 && (samePl (.int .i64 1) (.int .i64 1) && (samePl (.bool false) (.bool false) && (samePl (.int .i64 1) (.int .i64 1) && (samePl (.int .i64 3) (.int .i64 3) && (slIs h false 1 1 (matchT h false (plI [0] .nil)) n3 && true)))))))))))))))))))) = true
    have w2 : slIs h false 1 1 (matchT h false (plI [1] .nil)) n2 = true := w2
    have w3 : slIs h false 1 1 (matchT h false (plI [0] .nil)) n3 = true := w3
    rw [w2, w3]; rfl)
  show (samePl (.int .i64 1) (.int .i64 1) && (slIs h false 2 1 (matchT h false (plI [5, 6] .nil)) u.bo && (slIs h false 4 5 (matchT h false strokesDT) u.st && true))) = true
  rw [v1, v2]; rfl
theorem ends_c {P : Nat → Prop} {h : Heap} {u : SuiteV} {S : SuiteD} (q : IsSuite P h u S) (e : S.bench = exD.bench) {w : Value} (hw : LS h w [0, 1, 0, 1] ints 1) :
    callF CC (Lim CC) 24 [.agg ⟨[.int .i64 1, u.bo, u.st]⟩, w] h = some (.ret (.tuple ⟨[.slice (some ⟨h.next, 0, none⟩) 4 4, .int .i64 0]⟩) (h.ex [.row [.int .i64 2, .int .i64 2, .int .i64 2, .int .i64 3, .int .i64 3, .int .i64 5, .int .i64 3, .int .i64 6] 2 true]) none) := by
  obtain ⟨pw, cw, rfl⟩ := hw.len
  have hs : slIs h false 4 1 (matchT h false (plI [0, 1, 0, 1] .nil)) (.slice pw 4 cw) = true := slIs_of hw (by simp) (by omega) rfl (by kernel_rfl)
  have hm : matchA h false benchEnds0A [.agg ⟨[.int .i64 1, u.bo, u.st]⟩, .slice pw 4 cw] = true := by
    rw [show benchEnds0A = [(true, dtOf benchCheck0A), (false, .sl 4 1 (plI [0, 1, 0, 1] .nil) .nil)] from rfl]
    show ((true && matchT h false (dtOf benchCheck0A) [.int .i64 1, u.bo, u.st]) && ((true && (slIs h false 4 1 (matchT h false (plI [0, 1, 0, 1] .nil)) (.slice pw 4 cw) && true)) && true)) = true
    rw [bench_match q e, hs]; rfl
  have := closed_call (R := benchEnds0R) (show CC.A 24 = some (closedSpec benchEnds0A benchEnds0R noSpec) by kernel_rfl) hm
  exact this.trans rfl
def endsR : List Sp := [⟨2, 2⟩, ⟨2, 3⟩, ⟨3, 5⟩, ⟨3, 6⟩]
def spansL (l : List Sp) : List Int := l.flatMap fun x => [x.lo, x.hi]
theorem spansL_snoc {l : List Sp} {i : Nat} {x : Sp} (h : l[i]? = some x) : spansL (l.take (i + 1)) = spansL (l.take i) ++ [x.lo, x.hi] := by
  unfold spansL; rw [take_snoc h, List.flatMap_append]; rfl
theorem st_15s (σ : Sta) (v : StV) (e : σ.S.bench = exD.bench) : take? (σ.cells v) 15 3 = some [.int .i64 1, v.u.bo, v.u.st] := by
  have : take? (σ.cells v) 15 3 = some [.int .i64 σ.S.bench.app, v.u.bo, v.u.st] := rfl
  rw [this, e]; rfl
theorem bs_two (a b : Int) : aBuildSlice CC 22 2 [(0, .int .i64 a), (1, .int .i64 b)] = some (.new (.row [.int .i64 a, .int .i64 b] 1 true) (sliceTo 1 2 2)) := by kernel_rfl
set_option maxRecDepth 10000 in
theorem askEnds_d {N : Nat} {h : Heap} {p : Nat} {σ : Sta} {v : StV} (hk : HOK h) (h0 : 0 < h.next) (q : IsState N h p σ v) (e : σ.S.bench = exD.bench) (eh : σ.hands = [0, 1, 0, 1]) (w : Value) :
    CW CC 177 [.pointer (some ⟨p, 0, none⟩), w] h fun r h' => (∃ u, r = .tuple ⟨[u, .int .i64 0]⟩ ∧ LS h' u (spansL endsR) ints 1) ∧ Fr h h' := by
  have rp : rowAt h p = some (σ.cells v) := by unfold rowAt; rw [q.row]; rfl
  have np := row_lt hk rp
  have lh := q.hands.ls
  rw [eh] at lh
  have cn := contains_no hk (-1) lh (by decide) (by decide)
  have ec := ends_c q.suite e lh
  obtain ⟨ph, ch, eh'⟩ := lh.len
  have eh' : v.hands = .slice ph 4 ch := eh'
  obtain ⟨p1, c1, e1⟩ := q.suite.bo.1.len
  obtain ⟨p2, c2, e2⟩ := q.suite.st.len
  rw [e1, e2] at ec
  rw [eh'] at ec cn
  refine CW_in Tryz.f177 (by kernel_rfl) (by kernel_rfl) rfl rfl ?_
  simp only [Tryz.f177]
  simp (maxDischargeDepth := 30) only [AA, ↓reduceIte, Nat.reduceLT, Nat.reduceEqDiff, Nat.reduceAdd, Nat.reduceMul, reduceCtorEq, Nat.reduceLeDiff, Int.reduceNe, Int.reduceEq, XH, F177_S9, hk, rp, np, ST4, eh', cn]
  refine W_draw [(true, 0), (true, 1), (true, 2), (true, 3), (true, 4), (true, 5), (true, 6), (true, 7), (true, 8), (true, 9), (true, 10), (true, 11), (true, 12), (true, 13), (true, 14)] (by kernel_rfl) ?_
  simp (maxDischargeDepth := 30) only [AA, ↓reduceIte, Nat.reduceLT, Nat.reduceEqDiff, Nat.reduceAdd, Nat.reduceMul, reduceCtorEq, Nat.reduceLeDiff, Int.reduceNe, Int.reduceEq, AMR, XH, F177_S9, hk, rp, np, ST4, st_15s σ v e, eh', e1, e2, ec]
  have f1 := ex_fr [.row [.int .i64 2, .int .i64 2, .int .i64 2, .int .i64 3, .int .i64 3, .int .i64 5, .int .i64 3, .int .i64 6] 2 true] (Fr.refl hk)
  have rH : rowAt (h.ex [.row [.int .i64 2, .int .i64 2, .int .i64 2, .int .i64 3, .int .i64 3, .int .i64 5, .int .i64 3, .int .i64 6] 2 true]) h.next = some (endsR.flatMap Sp.cells) := rx_at0 rfl
  have nH : (h.ex [.row [.int .i64 2, .int .i64 2, .int .i64 2, .int .i64 3, .int .i64 3, .int .i64 5, .int .i64 3, .int .i64 6] 2 true]).next = h.next + 1 := by rw [ex_next]; rfl
  generalize (h.ex [.row [.int .i64 2, .int .i64 2, .int .i64 2, .int .i64 3, .int .i64 3, .int .i64 5, .int .i64 3, .int .i64 6] 2 true]) = H at f1 rH nH ⊢
  refine W_for [8, 10, 31, 32, 33, 34, 35, 36, 37, 38, 39, 40, 41, 42] 31 4 (fun i g h' => ∃ vo, g 8 = vo ∧ SL H.next h' vo ((spansL (endsR.take i)).flatMap ints) 1 (2 * i) ∧ Fr H h')
    (by simp only [upd_at, ↓reduceIte]) ⟨_, by simp only [upd_at, Nat.reduceEqDiff, ↓reduceIte], SL.nil _ _ _, Fr.refl f1.ok⟩ ?_ ?_
  · rintro i g h2 hi ag g31 ⟨vo, g8, qo, f2⟩ ih
    obtain ⟨x, gx⟩ : ∃ x, endsR[i]? = some x := ⟨_, List.getElem?_eq_getElem hi⟩
    rcases LS.of_row (sp := none) (c := 4) (xs := endsR) Sp.len rH with ⟨e0, _⟩ | ⟨bb, oo, spp, cc, row, eb, hr, hx⟩
    · simp [endsR] at e0
    simp only [Value.slice.injEq, Option.some.injEq, Addr.mk.injEq] at eb
    obtain ⟨⟨rfl, rfl, rfl⟩, _, rfl⟩ := eb
    have ht : take? row (i * 2) 2 = some [.int .i64 x.lo, .int .i64 x.hi] := by have := (hx i x gx).1; rwa [Nat.zero_add] at this
    have hr2 := f2.row' f1.ok hr
    have n2 := f2.next
    have f3 := ex_fr [.row [.int .i64 x.lo, .int .i64 x.hi] 0 true] f2
    have n3 : (h2.ex [.row [.int .i64 x.lo, .int .i64 x.hi] 0 true]).next = h2.next + 1 := by rw [ex_next]; rfl
    have f4 := ex_fr [.row [.int .i64 x.lo, .int .i64 x.hi] 1 true] f3
    have n4 : ((h2.ex [.row [.int .i64 x.lo, .int .i64 x.hi] 0 true]).ex [.row [.int .i64 x.lo, .int .i64 x.hi] 1 true]).next = h2.next + 1 + 1 := by rw [ex_next, n3]; rfl
    obtain ⟨h5, e5, q5, k5, n5, g5⟩ := append_N (ts := []) app_22 (N := H.next) f4.ok (by omega) (by omega) (qo.fr f2.ok (ex_fr _ (ex_fr _ (Fr.refl f2.ok)))) (x := .slice (some ⟨h2.next + 1, 0, some 1⟩) 2 2) (m := 1) (new := [.int .i64 x.lo, .int .i64 x.hi]) rfl (by
      show obind (rowAt _ (h2.next + 1)) (fun cells => take? cells 0 ((1 + 1) * 1)) = _
      rw [rx_at0 n3]; rfl) rfl rfl (by omega)
    rw [n4] at e5 q5 n5 g5
    simp only [XH, sliceTo, List.cons_append, List.nil_append] at e5 q5
    simp (maxDischargeDepth := 30) only [AA, ↓reduceIte, Nat.reduceLT, Nat.reduceEqDiff, Nat.reduceAdd, Nat.reduceMul, reduceCtorEq, Nat.reduceLeDiff, Int.reduceNe, Int.reduceEq, XH, F177_S9, ag.r, NE, g31, g8, f2.ok, lt_t hi, hi, hr2, ht, bs_two, e5, k5, i_next hi (by omega : 4 ≤ 1000)]
    refine ih _ _ (by simp only [AG, Nat.reduceEqDiff, ag]) (by simp only [upd_at, ↓reduceIte]) ⟨.slice (some ⟨h2.next + 1 + 1, 0, some 1⟩) (2 * i + 2) (2 * i + 2), by simp only [upd_at, Nat.reduceEqDiff, ↓reduceIte], ?_, k5, by omega, fun j hj => ?_⟩
    · rw [spansL_snoc gx, List.flatMap_append]
      exact q5
    · rw [g5 j (by omega) (fun e => by have := (qo.blk_lt f2.ok e).1; omega)]
      exact f4.get j hj
  · rintro g h2 ag g31 ⟨vo, g8, qo, f2⟩
    simp (maxDischargeDepth := 30) only [AA, ↓reduceIte, Nat.reduceLT, Nat.reduceEqDiff, Nat.reduceAdd, Nat.reduceMul, reduceCtorEq, Nat.reduceLeDiff, Int.reduceNe, Int.reduceEq, XH, F177_S9, ag.r, NE, g31, g8, f2.ok, lt_f]
    exact ⟨⟨_, rfl, SL.ls (xs := spansL endsR) ints_len qo⟩, f1.trans f2⟩
end Go.Am

namespace Go.Am
open Go Go.Proofs
def F176_S10 := A2 @bs_22 <| A2 @fp_257_5 <| A2 @ix_22 <| A2 @ld_154 <| A2 @ld_22 <| A2 @ld_3 <| A2 @len_22 <| A2 @part_3 <| A2 @size_22 <| A2 @size_3 <| A2 @und_22 <| A2 @und_3 <| A2 @zero_22 @zero_3
set_option maxRecDepth 10000 in
theorem ready_1 {N : Nat} {h : Heap} {p cp cn : Nat} {σ : Sta} {v : StV} (hk : HOK h) (q : IsState N h p σ v) (hl : σ.left = []) {x : Int} (rp : rowAt h cp = some [.pointer (some ⟨p, 0, none⟩)]) (rn : rowAt h cn = some [.int .i64 x]) :
    CX CC 249 [.pointer (some ⟨cn, 0, none⟩), .pointer (some ⟨cp, 0, none⟩)] h (fun _ h' => False ∧ Fr h h') fun e h' => ¬ False ∧ refused e ∧ Fr h h' := by
  refine CX_in Tryz.f249 (by kernel_rfl) (by kernel_rfl) rfl rfl ?_
  simp only [Tryz.f249]
  simp (maxDischargeDepth := 30) only [AA, ↓reduceIte, Nat.reduceLT, Nat.reduceEqDiff, Nat.reduceAdd, Nat.reduceMul, reduceCtorEq, Nat.reduceLeDiff, Int.reduceNe, Int.reduceEq, XH, ld_154, ld_3, hk, rp, rn]
  refine W_callX (goes_8n hk q (by rw [hl]; simp)) ?_ ?_
  · rintro _ _ hf; exact hf.elim
  · rintro e h2 ⟨hr, f2⟩
    simp only [PostX_panic]
    exact ⟨trivial, hr, f2⟩
set_option maxRecDepth 10000 in
theorem askReady_d {N : Nat} {h : Heap} {p : Nat} {σ : Sta} {v : StV} (hk : HOK h) (q : IsState N h p σ v) (hl : σ.left = []) (hn : σ.hands.length ≤ 1000) (w : Value) :
    CW CC 176 [.pointer (some ⟨p, 0, none⟩), w] h fun r h' => (∃ u, r = .tuple ⟨[u, .int .i64 0]⟩ ∧ LS h' u [] ints 1) ∧ Fr h h' := by
  have rp : rowAt h p = some (σ.cells v) := by unfold rowAt; rw [q.row]; rfl
  have np := row_lt hk rp
  obtain ⟨ph, ch, eh⟩ := q.hands.ls.len
  refine CW_in Tryz.f176 (by kernel_rfl) (by kernel_rfl) rfl rfl ?_
  simp only [Tryz.f176]
  simp (maxDischargeDepth := 30) only [AA, ↓reduceIte, Nat.reduceLT, Nat.reduceEqDiff, Nat.reduceAdd, Nat.reduceMul, reduceCtorEq, Nat.reduceLeDiff, Int.reduceNe, Int.reduceEq, XH, F176_S10, hk, rp, np, ST4, eh]
  have f1 := ex_fr [.row [.pointer (some ⟨p, 0, none⟩)] 0 true] (Fr.refl hk)
  have rH : rowAt (h.ex [.row [.pointer (some ⟨p, 0, none⟩)] 0 true]) h.next = some [.pointer (some ⟨p, 0, none⟩)] := rx_at0 rfl
  generalize (h.ex [.row [.pointer (some ⟨p, 0, none⟩)] 0 true]) = H at f1 rH ⊢
  refine W_for [6, 7, 13, 14, 15, 16, 17, 18, 19, 20, 21, 22] 13 σ.hands.length (fun i g h' => g 6 = .slice none 0 0 ∧ Fr H h') (by simp only [upd_at, ↓reduceIte]) ⟨by simp only [upd_at, Nat.reduceEqDiff, ↓reduceIte], Fr.refl f1.ok⟩ ?_ ?_
  · rintro i g h2 hi ag g13 ⟨g6, f2⟩ ih
    have f3 := ex_fr [.row [.int .i64 i] 0 true] f2
    have r3 : rowAt (h2.ex [.row [.int .i64 i] 0 true]) h2.next = some [.int .i64 i] := rx_at0 rfl
    simp (maxDischargeDepth := 30) only [AA, ↓reduceIte, Nat.reduceLT, Nat.reduceEqDiff, Nat.reduceAdd, Nat.reduceMul, reduceCtorEq, Nat.reduceLeDiff, Int.reduceNe, Int.reduceEq, XH, F176_S10, ag.r, NE, g13, g6, f2.ok, lt_t hi, hi]
    refine W_call (can_d (P0 := False) f3.ok fun h4 f4 => ready_1 f4.ok ((q.fr hk (f1.trans f3)).fr f3.ok f4) hl (f4.row' f3.ok (f3.row' f1.ok rH)) (f4.row' f3.ok r3)) ?_
    rintro _ h5 ⟨hc, f5⟩
    rcases hc with ⟨hf, _⟩ | ⟨_, rfl⟩
    · exact hf.elim
    simp (maxDischargeDepth := 30) only [AA, ↓reduceIte, Nat.reduceLT, Nat.reduceEqDiff, Nat.reduceAdd, Nat.reduceMul, reduceCtorEq, Nat.reduceLeDiff, Int.reduceNe, Int.reduceEq, XH, F176_S10, ag.r, NE, g13, g6, f5.ok, i_next hi hn]
    exact ih _ _ (by simp only [AG, Nat.reduceEqDiff, ag]) (by simp only [upd_at, ↓reduceIte]) ⟨by simp only [upd_at, Nat.reduceEqDiff, ↓reduceIte, g6], f3.trans f5⟩
  · rintro g h2 ag g13 ⟨g6, f2⟩
    simp (maxDischargeDepth := 30) only [AA, ↓reduceIte, Nat.reduceLT, Nat.reduceEqDiff, Nat.reduceAdd, Nat.reduceMul, reduceCtorEq, Nat.reduceLeDiff, Int.reduceNe, Int.reduceEq, XH, F176_S10, ag.r, NE, g13, g6, f2.ok, lt_f]
    exact ⟨⟨_, rfl, .inl ⟨rfl, _, _, rfl⟩⟩, f1.trans f2⟩
end Go.Am

namespace Go.Am
open Go Go.Proofs
def F8_S11 := A2 @fld_110_0 <| A2 @fld_110_1 <| A2 @fld_110_2 <| A2 @ld_49 <| A2 @size_110 <| A2 @sp_110_0 <| A2 @sp_110_1 @sp_110_2
set_option maxRecDepth 10000 in
theorem open_d {h : Heap} (hk : HOK h) (hp : 0 < h.next) {P Q : Nat → Prop} {u : SuiteV} {s : Sheet} (q : IsSuite P h u { exD with prices := s }) (hs : LP Q h u.sk [5, 5, 5] ints 1) (x : ExIn h u) (ok : s.ok = true) (two : s.boards.length = 2) (sm : SuiteD.Small { exD with prices := s }) :
    CW CC 8 [.agg ⟨SuiteD.cells { exD with prices := s } u⟩] h fun r h' => (∃ d w, r = .tuple ⟨[.pointer (some ⟨d, 0, none⟩), .int .i64 0]⟩ ∧ IsDesk h.next h' d { exD with prices := s } [] w) ∧ Fr h h' := by
  refine CW_in Tryz.f8 (by kernel_rfl) (by kernel_rfl) rfl rfl ?_
  simp only [Tryz.f8]
  obtain ⟨S, hS⟩ : ∃ S : SuiteD, S = { exD with prices := s } := ⟨_, rfl⟩
  have f1 := ex_fr [.row (SuiteD.cells { exD with prices := s } u) 0 true] (Fr.refl hk)
  have g1 : rowAt (h.ex [.row (SuiteD.cells { exD with prices := s } u) 0 true]) h.next = some (SuiteD.cells { exD with prices := s } u) := rx_at0 rfl
  simp (maxDischargeDepth := 30) only [AA, ↓reduceIte, Nat.reduceLT, Nat.reduceEqDiff, Nat.reduceAdd, Nat.reduceMul, reduceCtorEq, Nat.reduceLeDiff, Int.reduceNe, Int.reduceEq, XH, SC, F8_S11, hk]
  refine W_call (isSuite_d f1.ok (q.fr hk f1) (hs.1.fr hk f1) (x.fr hk f1) ok two) ?_
  rintro _ h2 ⟨rfl, f2⟩
  have f02 := f1.trans f2
  have n2 := f02.next
  have g2 := f2.row' f1.ok g1
  simp (maxDischargeDepth := 30) only [AA, ↓reduceIte, Nat.reduceLT, Nat.reduceEqDiff, Nat.reduceAdd, Nat.reduceMul, reduceCtorEq, Nat.reduceLeDiff, Int.reduceNe, Int.reduceEq, XH, SC, F8_S11, f2.ok, g2]
  refine W_call (own_d f2.ok (by omega) (q.fr hk f02) (hs.fr hk f02) sm) ?_
  rintro _ h3 ⟨⟨u', rfl, iu, sk⟩, f3⟩
  have f03 := f02.trans f3
  have n3 := f3.next
  have bd : aBuild CC 110 [(0, .bool true), (1, .agg ⟨SuiteD.cells { exD with prices := s } u'⟩)] = some (.agg ⟨SuiteD.desk { exD with prices := s } ⟨u', .slice none 0 0, []⟩⟩) := by kernel_rfl
  simp (maxDischargeDepth := 30) only [AA, ↓reduceIte, Nat.reduceLT, Nat.reduceEqDiff, Nat.reduceAdd, Nat.reduceMul, reduceCtorEq, Nat.reduceLeDiff, Int.reduceNe, Int.reduceEq, XH, SC, F8_S11, f3.ok, bd]
  have f4 := ex_fr [.row (SuiteD.desk { exD with prices := s } ⟨u', .slice none 0 0, []⟩) 0 true] (Fr.refl f3.ok)
  have g4 : (h3.ex [.row (SuiteD.desk { exD with prices := s } ⟨u', .slice none 0 0, []⟩) 0 true]).get h3.next = some (.row (SuiteD.desk { exD with prices := s } ⟨u', .slice none 0 0, []⟩) 0 true) := ex_at0 rfl
  refine ⟨⟨h3.next, ⟨u', .slice none 0 0, []⟩, rfl, g4, by omega, (iu.fr f3.ok f4).mono fun b hb => ⟨by omega, by omega, by simp [blkOf]⟩, LP.fr (sk.lp ints_len f3.ok fun b h1 h2 _ => ⟨by omega, by omega, by simp [blkOf]⟩) f3.ok f4, SL.nil _ _ _, ⟨rfl, fun i a b hi => by simp at hi⟩⟩, f03.trans f4⟩
theorem known_d (h : Heap) : callF CC (Lim CC) 7 [] h = some (.ret (.bool true) h none) := spec_call (show CC.A 7 = some knownSpec by kernel_rfl) rfl
theorem suite_d (h : Heap) : callF CC (Lim CC) 18 [] h = some (.ret (.agg ⟨exD.cells (exV h.next)⟩) (h.ex (objsA true suiteR h.next)) none) := by
  have := closed_call (f := 18) (A := []) (R := suiteR) (args := []) (h := h) (by kernel_rfl) rfl
  rw [this]
  have e : resOf suiteR h.next = .agg ⟨cellsT suiteT h.next⟩ := rfl
  rw [e, ex_cells]
theorem suite_objs {h : Heap} : ExObj (h.ex (objsA true suiteR h.next)) h.next := fun j o hj => by
  have e : objsA true suiteR h.next = objsT true suiteT h.next := List.append_nil _
  rw [e]
  have := (List.getElem?_eq_some_iff.1 hj).1
  rw [ex_at rfl this]; exact hj
theorem ex_small {s : Sheet} (ok : s.ok = true) : SuiteD.Small { exD with prices := s } := by
  have hl := Sheet.ok_len ok
  constructor
  all_goals first | (show _ ≤ 1000; simp; omega) | (intro w hw; simp [exD] at hw; rcases hw with rfl | rfl | rfl | rfl <;> simp) | (intro w hw; simp [exD] at hw; rcases hw with rfl | rfl | rfl <;> simp) | (intro w hw; simp [exD] at hw; rcases hw with rfl | rfl <;> simp) | (simp [exD])
theorem best_c {P : Nat → Prop} {h : Heap} {u : SuiteV} {S : SuiteD} (q : IsSuite P h u S) (e : S.bench = exD.bench) :
    callF CC (Lim CC) 12 [.agg ⟨[.int .i64 1, u.bo, u.st]⟩] h = some (.ret (.tuple ⟨[.slice (some ⟨h.next, 0, none⟩) 4 4, .int .i64 6, .int .i64 0]⟩) (h.ex [.row [.int .i64 0, .int .i64 1, .int .i64 0, .int .i64 1] 1 true]) none) := by
  have := closed_call (R := benchBest0R) (show CC.A 12 = some (closedSpec benchCheck0A benchBest0R noSpec) by kernel_rfl) (match_one (bench_match q e))
  exact this.trans rfl
theorem IsDesk.other {N : Nat} {h : Heap} {d : Nat} {S : SuiteD} {E : List Entry} {w : DeskV} (D : IsDesk N h d S E w) {b : Nat} {x y : Int} {cs : List Value} {s : Nat} {o : Bool} (hg : h.get b = some (.row (.int .i64 x :: .int .i64 y :: cs) s o)) : blkOf w.ev ≠ some b := by
  intro e
  rcases D.ent with ⟨e0, _⟩ | ⟨b', e', _, _, h3, _⟩
  · rw [e0] at e; simp [blkOf] at e
  · rw [e'] at e; simp [blkOf] at e; subst e
    rw [h3] at hg
    simp only [Option.some.injEq, AObj.row.injEq] at hg
    have hc := hg.1
    cases hv : w.evs with
    | nil => rw [hv] at hc; simp at hc
    | cons u us =>
      rw [hv] at hc
      simp only [List.flatMap_cons, EntryV.cells, List.cons_append, List.cons.injEq] at hc
      obtain ⟨z, _, hz⟩ := D.nums.get' (i := 0) (u := u) (by rw [hv]; rfl)
      obtain ⟨p, c, en⟩ := hz.2.1.len
      rw [en] at hc
      cases hc.2.1
theorem IsDesk.ne {N : Nat} {h : Heap} {d : Nat} {S : SuiteD} {E : List Entry} {w : DeskV} (D : IsDesk N h d S E w) {b : Nat} {cs : List Value} {s : Nat} {o : Bool} (hg : h.get b = some (.row cs s o)) (hl : cs.length ≠ 37) : b ≠ d := by
  rintro rfl
  rw [D.row] at hg
  simp only [Option.some.injEq, AObj.row.injEq] at hg
  exact hl (by rw [← hg.1, sd_len])
end Go.Am
