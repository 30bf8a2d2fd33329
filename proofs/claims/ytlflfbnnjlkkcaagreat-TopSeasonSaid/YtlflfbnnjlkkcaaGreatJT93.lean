/- Parts T93, T95, S1 of the abstract machine over this program, joined: what each part says stands at its head. -/
import Derived.Test.YtlflfbnnjlkkcaaGreatJT90
set_option linter.unusedSimpArgs false
set_option linter.unusedVariables false
set_option linter.defProp false
namespace Go.Am
open Go Go.Proofs
def F62_T93 := A2 @fp_25_0 <| A2 @fp_25_1 <| A2 @fp_80_0 <| A2 @fp_80_1 <| A2 @ld_22 <| A2 @ld_3 <| A2 @ld_77 <| A2 @len_22 <| A2 @size_25 @zero_25
def F64_T93 := A2 @ld_4 <| A2 @size_4 <| A2 @und_4 @zero_4
def F154_T93 := A2 @ix_22 <| A2 @ld_3 <| A2 @len_22 <| A2 @part_3 <| A2 @size_22 <| A2 @size_3 <| A2 @und_22 @zero_22
def F159_T93 := A2 @size_263 <| A2 @size_4 <| A2 @und_4 <| A2 @zero_263 @zero_4
def manyK (k : Int) : Int × Int :=
  if k = 1 then (1, 1) else if k = 2 then (0, 0) else if k = 3 then (3, 3) else if k = 4 then (1, 5) else if k = 5 then (1, 4) else if k = 6 then (2, 2) else if k = 7 then (2, 2)
  else if k = 8 then (1, 1) else if k = 9 then (2, 2) else if k = 10 then (1, 1) else if k = 11 then (2, 2) else if k = 12 then (1, 1) else if k = 13 then (0, 0) else (0, -1)
def isKind (k : Int) : Bool := decide (1 ≤ k ∧ k ≤ 13)
theorem kinds_of {k : Int} (h : 1 ≤ k ∧ k ≤ 13) : k = 1 ∨ k = 2 ∨ k = 3 ∨ k = 4 ∨ k = 5 ∨ k = 6 ∨ k = 7 ∨ k = 8 ∨ k = 9 ∨ k = 10 ∨ k = 11 ∨ k = 12 ∨ k = 13 := by omega
theorem many_none {k : Int} (h : ¬ (1 ≤ k ∧ k ≤ 13)) : manyK k = (0, -1) := by
  unfold manyK
  repeat rw [if_neg (by omega)]
theorem ne_k {k : Int} {j : Int} (h : k ≠ j) : (k == j) = false := by simpa using h
theorem bldS_2 (a b : Int) : aBuild CC 25 [(0, .int .i64 a), (1, .int .i64 b)] = some (.agg ⟨[.int .i64 a, .int .i64 b]⟩) := by kernel_rfl
theorem bldS_n : aBuild CC 25 [] = some (.agg ⟨[.int .i64 0, .int .i64 0]⟩) := by kernel_rfl
set_option maxRecDepth 10000 in
set_option maxHeartbeats 2000000 in
theorem many_p (k : Int) {h : Heap} (hk : HOK h) : CW CC 152 [.int .i64 k] h fun r h' => (∃ s : Int × Int, r = .tuple ⟨[.agg ⟨[.int .i64 s.1, .int .i64 s.2]⟩, .bool (isKind k)]⟩ ∧ (isKind k = true → s = manyK k)) ∧ Fr h h' := by
  have f1 := fun (l : List Value) => ((Fr.refl hk).alloc (.row [.int .i64 0, .int .i64 0] 0 true)).set (Nat.le_refl _) (by simp) (.row l 0 true)
  by_cases hn : 1 ≤ k ∧ k ≤ 13
  · have e : isKind k = true := decide_eq_true hn
    rw [e]
    rcases kinds_of hn with rfl | rfl | rfl | rfl | rfl | rfl | rfl | rfl | rfl | rfl | rfl | rfl | rfl <;>
    · refine CW_in Tryz.f152 (by kernel_rfl) (by kernel_rfl) rfl rfl ?_
      simp only [Tryz.f152]
      simp (maxDischargeDepth := 30) only [AA, ↓reduceIte, Nat.reduceLT, Nat.reduceEqDiff, Nat.reduceAdd, Nat.reduceMul, reduceCtorEq, Nat.reduceLeDiff, Int.reduceNe, Int.reduceEq, bld_25, fld_25_0, fld_25_1, ld_25, size_25, sp_25_0, sp_25_1, zero_25, hk, bldS_2, bldS_n, List.set_cons_zero, beq_self_eq_true, Int.reduceBEq]
      exact ⟨⟨manyK _, by first | rfl | trivial, fun _ => rfl⟩, f1 _⟩
  · have e : isKind k = false := decide_eq_false hn
    rw [e]
    refine CW_in Tryz.f152 (by kernel_rfl) (by kernel_rfl) rfl rfl ?_
    simp only [Tryz.f152]
    have n1 := ne_k (k := k) (j := 1) (by omega)
    have n2 := ne_k (k := k) (j := 2) (by omega)
    have n3 := ne_k (k := k) (j := 3) (by omega)
    have n4 := ne_k (k := k) (j := 4) (by omega)
    have n5 := ne_k (k := k) (j := 5) (by omega)
    have n6 := ne_k (k := k) (j := 6) (by omega)
    have n7 := ne_k (k := k) (j := 7) (by omega)
    have n8 := ne_k (k := k) (j := 8) (by omega)
    have n9 := ne_k (k := k) (j := 9) (by omega)
    have n10 := ne_k (k := k) (j := 10) (by omega)
    have n11 := ne_k (k := k) (j := 11) (by omega)
    have n12 := ne_k (k := k) (j := 12) (by omega)
    have n13 := ne_k (k := k) (j := 13) (by omega)
    simp (maxDischargeDepth := 30) only [AA, ↓reduceIte, Nat.reduceLT, Nat.reduceEqDiff, Nat.reduceAdd, Nat.reduceMul, reduceCtorEq, Nat.reduceLeDiff, Int.reduceNe, Int.reduceEq, bld_25, fld_25_0, fld_25_1, ld_25, size_25, sp_25_0, sp_25_1, zero_25, hk, bldS_2, bldS_n, n1, n2, n3, n4, n5, n6, n7, n8, n9, n10, n11, n12, n13]
    exact ⟨⟨(0, 0), by first | rfl | trivial, fun q => by cases q⟩, f1 _⟩
set_option maxRecDepth 10000 in
theorem some_p {h : Heap} (hk : HOK h) {v fv : Value} {xs : List Int} (g : Int → Bool) (hv : LS h v xs ints 1) (hl : xs.length ≤ 1000)
    (hcl : ∀ h1, Fr h h1 → ∀ x ∈ xs, ∃ h2, appV CC fv [.int .i64 x] h1 = some (.ret (.bool (g x)) h2 none) ∧ Fr h1 h2) :
    CW CC 154 [v, fv] h fun r h' => r = .bool (xs.any g) ∧ Fr h h' := by
  obtain ⟨p, c, rfl, hx⟩ := hv.open
  refine CW_in Tryz.f154 (by kernel_rfl) (by kernel_rfl) rfl rfl ?_
  simp only [Tryz.f154]
  simp (maxDischargeDepth := 30) only [AA, ↓reduceIte, Nat.reduceLT, Nat.reduceEqDiff, Nat.reduceAdd, Nat.reduceMul, reduceCtorEq, Nat.reduceLeDiff, Int.reduceNe, Int.reduceEq, F154_T93, hk]
  refine W_loop xs.length (fun m f h' => ∃ i, i ≤ xs.length ∧ m = xs.length - i ∧ f 1 = fv ∧ f 5 = .bool false ∧ f 8 = .slice p xs.length c ∧ f 9 = .int .i64 xs.length ∧ f 10 = .int .i64 i ∧ (∀ (j : Nat) x, j < i → xs[j]? = some x → g x = false) ∧ Fr h h')
    ⟨0, by omega, by omega, by simp [upd_at, argsFn_at], by simp [upd_at, argsFn_at], by simp [upd_at, argsFn_at], by simp [upd_at], by simp [upd_at], fun j x hj => by omega, Fr.refl hk⟩ ?_
  rintro m f h' ⟨i, hi, rfl, f1, f5, f8, f9, f10, hall, fr⟩ ih
  have hk' := fr.ok
  by_cases hil : i < xs.length
  · obtain ⟨x, g1⟩ : ∃ x, xs[i]? = some x := ⟨_, List.getElem?_eq_getElem hil⟩
    rcases hx with hx | ⟨b, o, sp, row, rfl, hr, hx⟩
    · rw [hx] at hil; simp at hil
    have k1 : row[o + i]? = some (.int .i64 x) := by simpa [ints] using (hx i x g1).2 0 (by omega)
    have hr' := fr.row' hk hr
    obtain ⟨h2, e2, fr2⟩ := hcl h' fr x (List.mem_of_getElem? g1)
    cases hg : g x with
    | true =>
      rw [hg] at e2
      simp (maxDischargeDepth := 30) only [AA, ↓reduceIte, Nat.reduceLT, Nat.reduceEqDiff, Nat.reduceAdd, Nat.reduceMul, reduceCtorEq, Nat.reduceLeDiff, Int.reduceNe, Int.reduceEq, F154_T93, hk', f1, f5, f8, f9, f10, lt_t hil, hil, hr', Nat.mul_one, k1, e2]
      refine ⟨?_, fr.trans fr2⟩
      have : xs.any g = true := List.any_eq_true.2 ⟨x, List.mem_of_getElem? g1, hg⟩
      rw [this]
    | false =>
      rw [hg] at e2
      simp (maxDischargeDepth := 30) only [AA, ↓reduceIte, Nat.reduceLT, Nat.reduceEqDiff, Nat.reduceAdd, Nat.reduceMul, reduceCtorEq, Nat.reduceLeDiff, Int.reduceNe, Int.reduceEq, F154_T93, hk', f1, f5, f8, f9, f10, lt_t hil, hil, hr', Nat.mul_one, k1, e2, i_next hil hl]
      refine ih (xs.length - (i + 1)) _ _ (by omega) ?_
      refine ⟨i + 1, by omega, rfl, by simp [upd_at, f1], by simp [upd_at, f5], by simp [upd_at, f8], by simp [upd_at, f9], by simp [upd_at], fun j y hj hy => ?_, fr.trans fr2⟩
      by_cases hji : j < i
      · exact hall j y hji hy
      · have : j = i := by omega
        subst this
        rw [g1] at hy; simp at hy; subst hy; exact hg
  · have : i = xs.length := by omega
    subst this
    simp (maxDischargeDepth := 30) only [AA, ↓reduceIte, Nat.reduceLT, Nat.reduceEqDiff, Nat.reduceAdd, Nat.reduceMul, reduceCtorEq, Nat.reduceLeDiff, Int.reduceNe, Int.reduceEq, F154_T93, hk', f1, f5, f8, f9, f10, lt_f]
    refine ⟨?_, fr⟩
    have : xs.any g = false := by
      rw [List.any_eq_false]
      intro x hx
      obtain ⟨j, hj⟩ := List.mem_iff_getElem?.1 hx
      simp [hall j x (List.getElem?_eq_some_iff.1 hj).1 hj]
    rw [this]
def numK (n : Int) : Bool := inP n 0 9999
def formed (k : Int) (l : List Int) : Bool := isKind k && (inP l.length (manyK k).1 (manyK k).2 && l.all numK)
theorem formed1_p (n : Int) (h : Heap) : callF CC (Lim CC) 155 [.int .i64 n] h = some (.ret (.bool (!numK n)) h none) := by
  refine CW.eq (CW_in Tryz.f155 (by kernel_rfl) (by kernel_rfl) rfl rfl ?_)
  simp only [Tryz.f155]
  simp (maxDischargeDepth := 30) only [AA, ↓reduceIte, Nat.reduceLT, Nat.reduceEqDiff, Nat.reduceAdd, Nat.reduceMul, reduceCtorEq, Nat.reduceLeDiff, Int.reduceNe, Int.reduceEq, L_nil, in_d]
  exact ⟨rfl, trivial⟩
theorem any_not (l : List Int) : (!l.any fun n => !numK n) = l.all numK := by
  induction l with
  | nil => rfl
  | cons x l ih => rw [List.any_cons, List.all_cons, ← ih]; cases numK x <;> simp
set_option maxRecDepth 10000 in
theorem isFormed_p {k : Int} {a : Value} {l : List Int} {h : Heap} (hk : HOK h) (hl : LS h a l ints 1) (hn : l.length ≤ 1000) : CW CC 62 [.agg ⟨[.int .i64 k, a]⟩] h fun r h' => r = .bool (formed k l) ∧ Fr h h' := by
  obtain ⟨p, c, rfl, hx⟩ := hl.open
  refine CW_in Tryz.f62 (by kernel_rfl) (by kernel_rfl) rfl rfl ?_
  simp only [Tryz.f62]
  have f1 : Fr h (h.alloc (.row [.int .i64 k, .slice p l.length c] 0 true)) := (Fr.refl hk).alloc _
  have r1 : rowAt (h.alloc (.row [.int .i64 k, .slice p l.length c] 0 true)) h.next = some [.int .i64 k, .slice p l.length c] := rowAt_new _ _ _ _
  simp (maxDischargeDepth := 30) only [AA, ↓reduceIte, Nat.reduceLT, Nat.reduceEqDiff, Nat.reduceAdd, Nat.reduceMul, reduceCtorEq, Nat.reduceLeDiff, Int.reduceNe, Int.reduceEq, F62_T93, hk]
  generalize (h.alloc (.row [.int .i64 k, .slice p l.length c] 0 true)) = h1 at f1 r1 ⊢
  refine W_call (many_p k f1.ok) ?_
  rintro _ h2 ⟨⟨s, rfl, hs⟩, fr2⟩
  have f2 := f1.trans fr2
  have k2 := f2.ok
  have r2 := fr2.row' f1.ok r1
  have l2 := hl.fr hk f2
  have n2 := row_lt k2 r2
  have f23 := fun l => ((Fr.refl k2).alloc (.row [.int .i64 0, .int .i64 0] 0 true)).set (Nat.le_refl _) (by simp) (.row l 0 true)
  cases hkd : isKind k with
  | false =>
    have e : formed k l = false := by unfold formed; rw [hkd]; rfl
    simp (maxDischargeDepth := 30) only [AA, ↓reduceIte, Nat.reduceLT, Nat.reduceEqDiff, Nat.reduceAdd, Nat.reduceMul, reduceCtorEq, Nat.reduceLeDiff, Int.reduceNe, Int.reduceEq, F62_T93, k2, r2, n2, List.set_cons_zero]
    exact ⟨by rw [e], f2.trans (f23 _)⟩
  | true =>
    rw [hs hkd]
    cases hin : inP l.length (manyK k).1 (manyK k).2 with
    | false =>
      have e : formed k l = false := by unfold formed; rw [hkd, hin]; rfl
      simp (maxDischargeDepth := 30) only [AA, ↓reduceIte, Nat.reduceLT, Nat.reduceEqDiff, Nat.reduceAdd, Nat.reduceMul, reduceCtorEq, Nat.reduceLeDiff, Int.reduceNe, Int.reduceEq, F62_T93, k2, r2, n2, in_d, hin, List.set_cons_zero]
      exact ⟨by rw [e], f2.trans (f23 _)⟩
    | true =>
      have e : formed k l = l.all numK := by unfold formed; rw [hkd, hin]; rfl
      have f3 := f23 [.int .i64 (manyK k).1, .int .i64 (manyK k).2]
      simp (maxDischargeDepth := 30) only [AA, ↓reduceIte, Nat.reduceLT, Nat.reduceEqDiff, Nat.reduceAdd, Nat.reduceMul, reduceCtorEq, Nat.reduceLeDiff, Int.reduceNe, Int.reduceEq, F62_T93, k2, r2, n2, in_d, hin, List.set_cons_zero]
      refine W_call (some_p f3.ok (fun n => !numK n) (l2.fr k2 f3) hn fun h1 fh x _ => ⟨h1, ?_, Fr.refl fh.ok⟩) ?_
      · first | (rw [V_func]; exact formed1_p x h1) | (rw [V_clo]; exact formed1_p x h1)
      rintro _ h4 ⟨rfl, f4⟩
      simp (maxDischargeDepth := 30) only [AA, ↓reduceIte, Nat.reduceLT, Nat.reduceEqDiff, Nat.reduceAdd, Nat.reduceMul, reduceCtorEq, Nat.reduceLeDiff, Int.reduceNe, Int.reduceEq, F62_T93, f4.ok, any_not]
      exact ⟨by rw [e], (f2.trans f3).trans f4⟩
def refused (v : Value) : Prop := ∃ s : ByteArray, v = .iface 263 (.agg ⟨[.string s]⟩)
theorem must_p (b : Bool) (s : ByteArray) {h : Heap} (hk : HOK h) : CX CC 289 [.bool b, .string s] h (fun _ h' => b = true ∧ Fr h h') fun v h' => b = false ∧ refused v ∧ Fr h h' := by
  refine CX_in Tryz.f289 (by kernel_rfl) (by kernel_rfl) rfl rfl ?_
  simp only [Tryz.f289]
  cases b
  · simp (maxDischargeDepth := 30) only [AA, ↓reduceIte, Nat.reduceLT, Nat.reduceEqDiff, Nat.reduceAdd, Nat.reduceMul, reduceCtorEq, Nat.reduceLeDiff, Int.reduceNe, Int.reduceEq, bld_263, fld_263_0, mi_263, size_263, sp_263_0, zero_263, hk, O_panic, ROr_panic, PostX_panic]
    exact ⟨trivial, ⟨s, rfl⟩, Fr.refl hk⟩
  · simp (maxDischargeDepth := 30) only [AA, ↓reduceIte, Nat.reduceLT, Nat.reduceEqDiff, Nat.reduceAdd, Nat.reduceMul, reduceCtorEq, Nat.reduceLeDiff, Int.reduceNe, Int.reduceEq, bld_263, fld_263_0, mi_263, size_263, sp_263_0, zero_263, hk, PostX_end]
    exact ⟨trivial, Fr.refl hk⟩
theorem as_refusal (v : Value) : aTypeAssert CC (.iface 263 v) 263 true = some (.tuple ⟨[v, .bool true]⟩) := by kernel_rfl
theorem ne_any (c : Bool) (t : TypeId) (v : Value) : aBin CC .neq 20 c (.iface t v) .nilIface = some (.bool true) := by cases c <;> kernel_rfl
theorem ne_anyn (t : Tmp) : aBin CC .neq 20 (isConstO (.tmp t) || isConstO (.const .nilIface)) .nilIface .nilIface = some (.bool false) := by kernel_rfl
set_option maxRecDepth 10000 in
theorem can1_ok (p : Nat) (h : Heap) (hk : HOK h) : ∃ v h', callPlain CC (Lim CC) 159 [.pointer (some ⟨p, 0, none⟩)] h none = some (.ret v h' none) ∧ h' = h := by
  refine plain_of Tryz.f159 (Q := fun _ h' => h' = h) (by kernel_rfl) rfl rfl ?_
  simp only [Tryz.f159]
  simp (maxDischargeDepth := 30) only [AA, ↓reduceIte, Nat.reduceLT, Nat.reduceEqDiff, Nat.reduceAdd, Nat.reduceMul, reduceCtorEq, Nat.reduceLeDiff, Int.reduceNe, Int.reduceEq, F159_T93, hk, O_recover0, ne_anyn, Post_end]
set_option maxRecDepth 10000 in
theorem can1_no (p : Nat) (s : ByteArray) (x : Value) (h : Heap) (hk : HOK h) (hp : h.get p = some (.row [x] 0 true)) :
    ∃ v h', callPlain CC (Lim CC) 159 [.pointer (some ⟨p, 0, none⟩)] h (some (.iface 263 (.agg ⟨[.string s]⟩))) = some (.ret v h' none) ∧
      rowAt h' p = some [.bool false] ∧ HOK h' ∧ h.next ≤ h'.next ∧ ∀ j, j < h.next → j ≠ p → h'.get j = h.get j := by
  have ml := get_lt hk hp
  refine plain_of Tryz.f159 (Q := fun _ h' => rowAt h' p = some [.bool false] ∧ HOK h' ∧ h.next ≤ h'.next ∧ ∀ j, j < h.next → j ≠ p → h'.get j = h.get j) (by kernel_rfl) rfl rfl ?_
  simp only [Tryz.f159]
  have f1 : Fr h ((h.alloc (.row [.string ⟨⟨[]⟩⟩] 0 true)).set h.next (.row [.string s] 0 true)) := ((Fr.refl hk).alloc _).set (Nat.le_refl _) (by simp) _
  simp (maxDischargeDepth := 30) only [AA, ↓reduceIte, Nat.reduceLT, Nat.reduceEqDiff, Nat.reduceAdd, Nat.reduceMul, reduceCtorEq, Nat.reduceLeDiff, Int.reduceNe, Int.reduceEq, F159_T93, hk, O_recover, ne_any, as_refusal, List.set_cons_zero]
  generalize ((h.alloc (.row [.string ⟨⟨[]⟩⟩] 0 true)).set h.next (.row [.string s] 0 true)) = h1 at f1 ⊢
  have p1 := f1.get' hk hp
  have n1 := f1.next
  simp (maxDischargeDepth := 30) only [AA, ↓reduceIte, Nat.reduceLT, Nat.reduceEqDiff, Nat.reduceAdd, Nat.reduceMul, reduceCtorEq, Nat.reduceLeDiff, Int.reduceNe, Int.reduceEq, F159_T93, f1.ok, p1, List.set_cons_zero, Post_end]
  refine ⟨by first | trivial | exact rowAt_set_self _ _ _ _ _, by first | trivial | exact f1.ok.set (by omega) _, by first | trivial | exact f1.ok.set (by omega) _ | exact n1, ?_⟩
  intro j hj a
  rw [Heap.get_set_ne _ _ a]; exact f1.get j hj
set_option maxRecDepth 10000 in
theorem can_d {g : FuncId} {caps : List Value} {P0 : Prop} {h : Heap} (hk : HOK h)
    (hg : ∀ h1, Fr h h1 → CX CC g caps h1 (fun _ h' => P0 ∧ Fr h1 h') (fun v h' => ¬ P0 ∧ refused v ∧ Fr h1 h')) :
    CW CC 64 [.func (.func g) ⟨[]⟩ ⟨caps⟩] h fun r h' => ((P0 ∧ r = .bool true) ∨ (¬ P0 ∧ r = .bool false)) ∧ Fr h h' := by
  have key : W (Lim CC none [.code Tryz.f64.body.get!] ⟨T 6 (argsFn [.func (.func g) ⟨[]⟩ ⟨caps⟩]), [], none⟩ h) fun r s h' =>
      s.defers = [{ target := .fn (.func 159) ⟨[.pointer (some ⟨h.next, 0, none⟩)]⟩, args := ⟨[]⟩ }] ∧ s.pan = none ∧ (∃ f, s.tmps = T 6 f ∧ f 2 = .pointer (some ⟨h.next, 0, none⟩)) ∧ Fr h h' ∧
      ((r = .ended (some .ret) ∧ h'.get h.next = some (.row [.bool true] 0 true) ∧ P0) ∨ ∃ i, r = .panic (.iface 263 (.agg ⟨[.string i]⟩)) ∧ h'.get h.next = some (.row [.bool false] 0 true) ∧ ¬ P0) := by
    simp only [Tryz.f64, Option.get!]
    have f0 := ex_fr [.row [.bool false] 0 true] (Fr.refl hk)
    have z1 : (h.ex [.row [.bool false] 0 true]).get h.next = some (.row [.bool false] 0 true) := ex_at0 rfl
    simp (maxDischargeDepth := 30) only [AA, ↓reduceIte, Nat.reduceLT, Nat.reduceEqDiff, Nat.reduceAdd, Nat.reduceMul, reduceCtorEq, Nat.reduceLeDiff, Int.reduceNe, Int.reduceEq, XH, F64_T93, hk, O_defer, ROr_defer, V_clo, List.nil_append]
    refine W_callX (hg _ f0) ?_ ?_
    · rintro v h2 ⟨p0, f2⟩
      have y1 := f2.get' f0.ok z1
      have l1 := get_lt f2.ok y1
      simp (maxDischargeDepth := 30) only [AA, ↓reduceIte, Nat.reduceLT, Nat.reduceEqDiff, Nat.reduceAdd, Nat.reduceMul, reduceCtorEq, Nat.reduceLeDiff, Int.reduceNe, Int.reduceEq, XH, F64_T93, f2.ok, y1]
      exact ⟨trivial, trivial, ⟨_, rfl, by simp [upd_at]⟩, (f0.trans f2).set (Nat.le_refl _) l1 _, .inl ⟨trivial, trivial, p0⟩⟩
    · rintro v h2 ⟨p0, ⟨i, rfl⟩, f2⟩
      exact ⟨rfl, rfl, ⟨_, rfl, by simp [upd_at]⟩, f0.trans f2, .inr ⟨i, rfl, f2.get' f0.ok z1, p0⟩⟩
  obtain ⟨r, s, h1, e, hd, hp', ⟨f, ht, f2⟩, fr, hc⟩ := key
  rcases hc with ⟨rfl, z1, p0⟩ | ⟨i, rfl, z1, p0⟩
  · obtain ⟨v, h2, e2, rfl⟩ := can1_ok h.next h1 fr.ok
    have w1 : rowAt h2 h.next = some [.bool true] := by unfold rowAt; rw [z1]; rfl
    have hr : readResults CC s.tmps h2 Tryz.f64.results.toList = some [.bool true] := by
      rw [ht]; simp only [Tryz.f64]; simp (maxDischargeDepth := 30) only [AA, ↓reduceIte, Nat.reduceLT, Nat.reduceEqDiff, Nat.reduceAdd, Nat.reduceMul, reduceCtorEq, Nat.reduceLeDiff, Int.reduceNe, Int.reduceEq, F64_T93, f2, w1]
    exact ⟨_, h2, callF_defer (fn := Tryz.f64) (c := Tryz.f64.body.get!) (by kernel_rfl) (by kernel_rfl) rfl rfl e rfl hd hp' (by kernel_rfl) e2 hr, .inl ⟨p0, rfl⟩, fr⟩
  · obtain ⟨v, h2, e2, w1, k2, n2, fr2⟩ := can1_no h.next i (.bool false) h1 fr.ok z1
    have hr : readResults CC s.tmps h2 Tryz.f64.results.toList = some [.bool false] := by
      rw [ht]; simp only [Tryz.f64]; simp (maxDischargeDepth := 30) only [AA, ↓reduceIte, Nat.reduceLT, Nat.reduceEqDiff, Nat.reduceAdd, Nat.reduceMul, reduceCtorEq, Nat.reduceLeDiff, Int.reduceNe, Int.reduceEq, F64_T93, f2, w1]
    have n1 := fr.next
    refine ⟨_, h2, callF_defer (fn := Tryz.f64) (c := Tryz.f64.body.get!) (by kernel_rfl) (by kernel_rfl) rfl rfl e rfl hd hp' (by kernel_rfl) e2 hr, .inr ⟨p0, rfl⟩, k2, by omega, fun j hj => ?_⟩
    rw [fr2 j (by omega) (by omega)]
    exact fr.get j hj
theorem is_d {h : Heap} (hk : HOK h) {N d : Nat} {S : SuiteD} {E : List Entry} {w : DeskV} (D : IsDesk N h d S E w) : callF CC (Lim CC) 61 [.pointer (some ⟨d, 0, none⟩)] h = some (.ret (.bool true) h none) := by
  have rd : rowAt h d = some (S.desk w) := by unfold rowAt; rw [D.row]; rfl
  refine CW.eq (CW_in Tryz.f61 (by kernel_rfl) (by kernel_rfl) rfl rfl ?_)
  simp only [Tryz.f61]
  simp (maxDischargeDepth := 30) only [AA, ↓reduceIte, Nat.reduceLT, Nat.reduceEqDiff, Nat.reduceAdd, Nat.reduceMul, reduceCtorEq, Nat.reduceLeDiff, Int.reduceNe, Int.reduceEq, fp_110_0, ld_4, hk, rd, sd_0, show ∀ (c : Bool) (a : Addr), aBin CC .neq 52 c (.pointer (some a)) (.pointer none) = some (.bool true) from fun c a => by cases c <;> kernel_rfl]
end Go.Am

namespace Go.Am
open Go Go.Proofs
theorem app_ent : AppT CC 108 108 2 := appT (by kernel_rfl)
def DeskV.put (w : DeskV) (nv : Value) (u : EntryV) : DeskV := { w with ev := nv, evs := w.evs ++ [u] }
theorem desk_step {N M : Nat} {h : Heap} {d : Nat} {S : SuiteD} {E : List Entry} {w : DeskV} (hk : HOK h) (hp : 0 < h.next) (D : IsDesk N h d S E w) (hN : N ≤ h.next) {nv : Value} {l : List Int} (kind : Int) (hnv : SL M h nv (l.flatMap ints) 1 l.length) (hM : N ≤ M) (hd : d < M) (hn : w.evs.length ≤ 1000) :
    ∃ h4, aAppend CC [108, 108] w.ev (.slice (some ⟨h.next, 0, some 2⟩) 1 1) (h.ex [.row [.int .i64 kind, nv] 2 true]) = some (.slice (some ⟨h.next + 1, 0, some 2⟩) (w.evs.length + 1) (w.evs.length + 1), h4) ∧ HOK h4 ∧ h4.get d = some (.row (S.desk w) 0 true) ∧
      IsDesk N (h4.set d (.row (S.desk (w.put (.slice (some ⟨h.next + 1, 0, some 2⟩) (w.evs.length + 1) (w.evs.length + 1)) ⟨kind, nv⟩)) 0 true)) d S (E ++ [⟨kind, l⟩]) (w.put (.slice (some ⟨h.next + 1, 0, some 2⟩) (w.evs.length + 1) (w.evs.length + 1)) ⟨kind, nv⟩) ∧
      Gr (fun b => b = d ∨ blkOf w.ev = some b) h (h4.set d (.row (S.desk (w.put (.slice (some ⟨h.next + 1, 0, some 2⟩) (w.evs.length + 1) (w.evs.length + 1)) ⟨kind, nv⟩)) 0 true)) := by
  obtain ⟨pn, cn, env⟩ := hnv.value
  have f1 := ex_fr [.row [.int .i64 kind, nv] 2 true] (Fr.refl hk)
  have r1 : rowAt (h.ex [.row [.int .i64 kind, nv] 2 true]) h.next = some [.int .i64 kind, nv] := rx_at0 rfl
  have x1 : (h.ex [.row [.int .i64 kind, nv] 2 true]).next = h.next + 1 := by rw [ex_next]; rfl
  obtain ⟨h4, e4, q4, k4, n4, g4⟩ := append_N (ts := []) app_ent (N := N) f1.ok (by omega) (by omega) (D.ent.fr hk f1) (x := .slice (some ⟨h.next, 0, some 2⟩) 1 1) (m := 0) (new := [.int .i64 kind, nv]) rfl (by
    show obind (rowAt _ h.next) (fun cells => take? cells 0 ((0 + 1) * 2)) = _
    rw [r1]; rfl) (by rw [env]; rfl) rfl (by omega)
  rw [x1] at e4 q4 n4 g4
  have pl := get_lt hk D.row
  have ps : blkOf w.ev ≠ some d := D.ent.other D.row (by simp)
  have old : ∀ b, b < h.next → blkOf w.ev ≠ some b → h4.get b = h.get b := fun b hb hs => by rw [g4 b (by omega) hs, ex_lt hb]
  have g4p : h4.get d = some (.row (S.desk w) 0 true) := by rw [old d pl ps]; exact D.row
  simp only [sliceTo, Nat.zero_add] at e4 q4
  generalize hv : Value.slice (some ⟨h.next + 1, 0, some 2⟩) (w.evs.length + 1) (w.evs.length + 1) = ev at e4 q4 ⊢
  have bn : blkOf ev = some (h.next + 1) := by rw [← hv]; rfl
  have gs : ∀ (x : AObj) b, b < h.next → b ≠ d → blkOf w.ev ≠ some b → (h4.set d x).get b = h.get b := fun x b hb hne hs => by rw [Heap.get_set_ne _ _ hne]; exact old b hb hs
  have kx : ∀ x, HOK (h4.set d x) := fun x => k4.set (by omega) x
  refine ⟨h4, e4, k4, g4p, ?_, kx _, by simp; omega, fun i hi hx => gs _ i hi (fun e => hx (.inl e)) fun e => hx (.inr e)⟩
  have fixlt : ∀ {α : Type} {y : Value} {xs : List α} {f : α → List Value} {s : Nat}, LP (w.Fix N d) h y xs f s → LP ((w.put ev ⟨kind, nv⟩).Fix N d) (h4.set d (.row (S.desk (w.put ev ⟨kind, nv⟩)) 0 true)) y xs f s := fun {α y xs f s} ql => by
    refine ⟨?_, fun e b hb => ?_⟩
    · rcases ql.1 with q1 | ⟨b, o, sp, c, row, rfl, h1, h2⟩
      · exact .inl q1
      · by_cases e : xs = []
        · subst e; exact .inl ⟨rfl, _, _, rfl⟩
        · have hb := ql.2 e b rfl
          exact .inr ⟨b, o, sp, c, row, rfl, by unfold rowAt; rw [gs _ b (row_lt hk h1) hb.2.1 hb.2.2]; exact h1, h2⟩
    · have hb' := ql.2 e b hb
      refine ⟨hb'.1, hb'.2.1, ?_⟩
      show blkOf ev ≠ some b
      rw [bn]
      rcases ql.1 with ⟨e', _⟩ | ⟨b', o, sp, c, row, rfl, h1, h2⟩
      · exact absurd e' e
      · simp [blkOf] at hb; subst hb
        have := row_lt hk h1
        simp; omega
  have se : ∀ b, blkOf w.ev = some b → b ≠ h.next + 1 ∧ h.get b = some (.row (w.evs.flatMap EntryV.cells) 2 true) := fun b hb => by
    rcases D.ent with ⟨e, _⟩ | ⟨b', e, _, _, h3, _⟩
    · rw [e] at hb; simp [blkOf] at hb
    · rw [e] at hb; simp [blkOf] at hb; subst hb; exact ⟨by have := get_lt hk h3; omega, h3⟩
  have len : w.evs.length = E.length := D.nums.1
  refine {
    row := get_set_self' _ _ _
    low := D.low
    suite := ⟨fixlt D.suite.w, fixlt D.suite.pr, by obtain ⟨us, q1, q2⟩ := D.suite.wd; exact ⟨us, fixlt q1, q2.map fun _ _ hu => ⟨fixlt hu.signs, fixlt hu.cuts, hu.free⟩⟩, fixlt D.suite.dry, fixlt D.suite.wk, fixlt D.suite.ct, by obtain ⟨us, q1, q2⟩ := D.suite.sp; exact ⟨us, fixlt q1, q2.map fun _ _ hu => fixlt hu⟩, fixlt D.suite.bo, by obtain ⟨us, q1, q2⟩ := D.suite.st; exact ⟨us, fixlt q1, q2.map fun _ _ hu => ⟨hu.board, hu.round, hu.lo, hu.hi, fixlt hu.needs, hu.nil⟩⟩, fixlt D.suite.ti, fixlt D.suite.of, fixlt D.suite.bd, fixlt D.suite.tr⟩
    sk := fixlt D.sk
    ent := by
      have : (w.evs ++ [(⟨kind, nv⟩ : EntryV)]).length = w.evs.length + 1 := by simp
      show SL N _ ev ((w.evs ++ [(⟨kind, nv⟩ : EntryV)]).flatMap EntryV.cells) 2 (w.evs ++ [(⟨kind, nv⟩ : EntryV)]).length
      rw [this, List.flatMap_append]
      exact q4.keep fun b hb => Heap.get_set_ne _ _ (by rw [bn] at hb; simp at hb; omega)
    nums := by
      have hq : LR (IsEntry ((w.put ev ⟨kind, nv⟩).Fix N d)) (h4.set d (.row (S.desk (w.put ev ⟨kind, nv⟩)) 0 true)) w.evs ((E ++ [(⟨kind, l⟩ : Entry)]).take w.evs.length) := by
        rw [len, List.take_left]
        exact D.nums.map fun _ _ hu => ⟨hu.1, fixlt hu.2⟩
      have := LR.snoc hq rfl (w := (⟨kind, l⟩ : Entry)) (u := (⟨kind, nv⟩ : EntryV)) (by rw [len]; simp) ⟨rfl, ?_⟩
      · rw [len, show E.length + 1 = (E ++ [(⟨kind, l⟩ : Entry)]).length by simp, List.take_length] at this
        exact this
      · show LP _ _ nv l ints 1
        refine SL.lp ints_len (N := M) (hnv.keep fun b hb => ?_) (kx _) fun b h1 h2 hb => ⟨by omega, by omega, ?_⟩
        · have hb' := hnv.blk_lt hk hb
          refine gs _ b hb'.2 (by omega) fun e => ?_
          have := (se b e).2
          rcases hnv with ⟨e', _⟩ | ⟨b', e', _, _, h3, _⟩
          · rw [e'] at hb; simp [blkOf] at hb
          · rw [e'] at hb; simp [blkOf] at hb; subst hb; rw [this] at h3; simp at h3
        · show blkOf ev ≠ some b
          rw [bn]
          have := (hnv.blk_lt hk hb).2
          simp; omega }
end Go.Am

namespace Go.Am
open Go Go.Proofs
def F66_S1 := A2 @bld_25 <| A2 @bld_267 <| A2 @bld_269 <| A2 @bld_273 <| A2 @bld_275 <| A2 @bld_278 <| A2 @bld_281 <| A2 @bld_283 <| A2 @fld_25_0 <| A2 @fld_25_1 <| A2 @fld_269_0 <| A2 @fld_269_1 <| A2 @fld_273_0 <| A2 @fld_273_1 <| A2 @fld_275_0 <| A2 @fld_275_1 <| A2 @fld_278_0 <| A2 @fld_278_1 <| A2 @fld_281_0 <| A2 @fld_281_1 <| A2 @fp_80_0 <| A2 @fp_80_1 <| A2 @ix_22 <| A2 @ix_270 <| A2 @ix_271 <| A2 @ld_22 <| A2 @ld_3 <| A2 @ld_77 <| A2 @mi_265 <| A2 @mi_267 <| A2 @mi_269 <| A2 @mi_270 <| A2 @mi_271 <| A2 @mi_273 <| A2 @mi_275 <| A2 @mi_276 <| A2 @mi_278 <| A2 @mi_279 <| A2 @mi_281 <| A2 @mi_282 <| A2 @mi_283 <| A2 @part_3 <| A2 @size_22 <| A2 @size_25 <| A2 @size_265 <| A2 @size_267 <| A2 @size_269 <| A2 @size_270 <| A2 @size_271 <| A2 @size_273 <| A2 @size_275 <| A2 @size_276 <| A2 @size_278 <| A2 @size_279 <| A2 @size_281 <| A2 @size_282 <| A2 @size_283 <| A2 @size_3 <| A2 @sp_25_0 <| A2 @sp_25_1 <| A2 @sp_269_0 <| A2 @sp_269_1 <| A2 @sp_273_0 <| A2 @sp_273_1 <| A2 @sp_275_0 <| A2 @sp_275_1 <| A2 @sp_278_0 <| A2 @sp_278_1 <| A2 @sp_281_0 <| A2 @sp_281_1 <| A2 @und_22 <| A2 @und_265 <| A2 @und_270 <| A2 @und_271 <| A2 @und_276 <| A2 @und_279 <| A2 @und_282 <| A2 @zero_22 <| A2 @zero_25 <| A2 @zero_265 <| A2 @zero_267 <| A2 @zero_269 <| A2 @zero_270 <| A2 @zero_271 <| A2 @zero_273 <| A2 @zero_275 <| A2 @zero_276 <| A2 @zero_278 <| A2 @zero_279 <| A2 @zero_281 <| A2 @zero_282 @zero_283
theorem ta_no {X t : TypeId} {z : Value} (w : Value) (h1 : obind (CC.und t) (fun d => some (isIfaceD d)) = some false) (h3 : CC.zero t = some z) (h : X ≠ t) : aTypeAssert CC (.iface X w) t true = some (.tuple ⟨[z, .bool false]⟩) := by
  unfold aTypeAssert
  obtain ⟨d, hd, hd'⟩ := obind_eq h1
  rw [hd]
  have e : isIfaceD d = false := by simpa using hd'
  have n : Nat.beq X t = false := by
    cases hb : Nat.beq X t with
    | false => rfl
    | true => exact absurd (Nat.eq_of_beq_eq_true hb) h
  simp only [obind_some, e, Bool.not_false, guardB_true, h3, assertOn, n]
  rfl
section
variable {X : TypeId} (w : Value)
theorem tn1 (h : X ≠ 265) : aTypeAssert CC (.iface X w) 265 true = some (.tuple ⟨[.int .i64 0, .bool false]⟩) := ta_no w (by kernel_rfl) (by kernel_rfl) h
theorem tn2 (h : X ≠ 267) : aTypeAssert CC (.iface X w) 267 true = some (.tuple ⟨[.agg ⟨[]⟩, .bool false]⟩) := ta_no w (by kernel_rfl) (by kernel_rfl) h
theorem tn3 (h : X ≠ 269) : aTypeAssert CC (.iface X w) 269 true = some (.tuple ⟨[.agg ⟨[.int .i64 0, .int .i64 0, .int .i64 0]⟩, .bool false]⟩) := ta_no w (by kernel_rfl) (by kernel_rfl) h
theorem tn4 (h : X ≠ 270) : aTypeAssert CC (.iface X w) 270 true = some (.tuple ⟨[.slice none 0 0, .bool false]⟩) := ta_no w (by kernel_rfl) (by kernel_rfl) h
theorem tn5 (h : X ≠ 271) : aTypeAssert CC (.iface X w) 271 true = some (.tuple ⟨[.slice none 0 0, .bool false]⟩) := ta_no w (by kernel_rfl) (by kernel_rfl) h
theorem tn6 (h : X ≠ 273) : aTypeAssert CC (.iface X w) 273 true = some (.tuple ⟨[.agg ⟨[.int .i64 0, .int .i64 0]⟩, .bool false]⟩) := ta_no w (by kernel_rfl) (by kernel_rfl) h
theorem tn7 (h : X ≠ 275) : aTypeAssert CC (.iface X w) 275 true = some (.tuple ⟨[.agg ⟨[.int .i64 0, .int .i64 0]⟩, .bool false]⟩) := ta_no w (by kernel_rfl) (by kernel_rfl) h
theorem tn8 (h : X ≠ 276) : aTypeAssert CC (.iface X w) 276 true = some (.tuple ⟨[.int .i64 0, .bool false]⟩) := ta_no w (by kernel_rfl) (by kernel_rfl) h
theorem tn9 (h : X ≠ 278) : aTypeAssert CC (.iface X w) 278 true = some (.tuple ⟨[.agg ⟨[.int .i64 0, .int .i64 0]⟩, .bool false]⟩) := ta_no w (by kernel_rfl) (by kernel_rfl) h
theorem tn10 (h : X ≠ 279) : aTypeAssert CC (.iface X w) 279 true = some (.tuple ⟨[.int .i64 0, .bool false]⟩) := ta_no w (by kernel_rfl) (by kernel_rfl) h
theorem ty7 : aTypeAssert CC (.iface 275 w) 275 true = some (.tuple ⟨[w, .bool true]⟩) := by kernel_rfl
theorem ty8 : aTypeAssert CC (.iface 276 w) 276 true = some (.tuple ⟨[w, .bool true]⟩) := by kernel_rfl
theorem ty9 : aTypeAssert CC (.iface 278 w) 278 true = some (.tuple ⟨[w, .bool true]⟩) := by kernel_rfl
theorem ty10 : aTypeAssert CC (.iface 279 w) 279 true = some (.tuple ⟨[w, .bool true]⟩) := by kernel_rfl
theorem ty11 : aTypeAssert CC (.iface 281 w) 281 true = some (.tuple ⟨[w, .bool true]⟩) := by kernel_rfl
end
def TA := A2 @tn1 <| A2 @tn2 <| A2 @tn3 <| A2 @tn4 <| A2 @tn5 <| A2 @tn6 <| A2 @tn7 <| A2 @tn8 <| A2 @tn9 <| A2 @tn10 <| A2 @ty7 <| A2 @ty8 <| A2 @ty9 <| A2 @ty10 @ty11
def act2 (t : TypeId) (a b : Int) : Value := .iface t (.agg ⟨[.int .i64 a, .int .i64 b]⟩)
theorem ints_two {h : Heap} {w : Value} {a b : Int} (hw : LS h w [a, b] ints 1) : ∃ bb o sp c row, w = .slice (some ⟨bb, o, sp⟩) 2 c ∧ rowAt h bb = some row ∧ row[o]? = some (.int .i64 a) ∧ row[o + 1]? = some (.int .i64 b) := by
  rcases hw with ⟨e, _⟩ | ⟨bb, o, sp, c, row, rfl, hr, hy⟩
  · simp at e
  · exact ⟨bb, o, sp, c, row, rfl, hr, by simpa [ints] using (hy 0 _ rfl).2 0 (by omega), by simpa [ints] using (hy 1 _ rfl).2 0 (by omega)⟩
theorem ints_1 {h : Heap} {w : Value} {a : Int} (hw : LS h w [a] ints 1) : ∃ bb o sp c row, w = .slice (some ⟨bb, o, sp⟩) 1 c ∧ rowAt h bb = some row ∧ row[o]? = some (.int .i64 a) := by
  rcases hw with ⟨e, _⟩ | ⟨bb, o, sp, c, row, rfl, hr, hy⟩
  · simp at e
  · exact ⟨bb, o, sp, c, row, rfl, hr, by simpa [ints] using (hy 0 _ rfl).2 0 (by omega)⟩
theorem ix_0 {b o : Nat} {sp : Option Nat} {n c : Nat} (hn : 0 < n) : aIndexAddr CC 22 (.slice (some ⟨b, o, sp⟩) n c) (.int .i64 0) = some (.pointer (some ⟨b, o, none⟩)) := by
  have := ix_22 b o sp n c 0 hn
  simpa using this
theorem ix_1 {b o : Nat} {sp : Option Nat} {n c : Nat} (hn : 1 < n) : aIndexAddr CC 22 (.slice (some ⟨b, o, sp⟩) n c) (.int .i64 1) = some (.pointer (some ⟨b, o + 1, none⟩)) := by
  have := ix_22 b o sp n c 1 hn
  simpa using this
theorem acted_7 {h : Heap} (hk : HOK h) {w : Value} {a b : Int} (hw : LS h w [a, b] ints 1) : CW CC 66 [.agg ⟨[.int .i64 7, w]⟩] h fun r h' => r = act2 275 a b ∧ Fr h h' := by
  obtain ⟨bb, o, sp, c, row, rfl, hr, c0, c1⟩ := ints_two hw
  have nb := row_lt hk hr
  refine CW_in Tryz.f66 (by kernel_rfl) (by kernel_rfl) rfl rfl ?_
  simp only [Tryz.f66]
  simp (maxDischargeDepth := 30) only [AA, ↓reduceIte, Nat.reduceLT, Nat.reduceEqDiff, Nat.reduceAdd, Nat.reduceMul, reduceCtorEq, Nat.reduceLeDiff, Int.reduceNe, Int.reduceEq, XH, F66_S1, hk, Int.reduceBEq, beq_self_eq_true]
  refine W_draw [(true, 0), (true, 1), (true, 2), (true, 3), (true, 4), (true, 5), (true, 6), (true, 7), (true, 8)] (by kernel_rfl) ?_
  simp (maxDischargeDepth := 30) only [AA, ↓reduceIte, Nat.reduceLT, Nat.reduceEqDiff, Nat.reduceAdd, Nat.reduceMul, reduceCtorEq, Nat.reduceLeDiff, Int.reduceNe, Int.reduceEq, AMR, XH, F66_S1, hk, hr, nb, c0, c1, ix_0 (show 0 < 2 by omega), ix_1 (show 1 < 2 by omega)]
  exact ⟨rfl, ex_fr _ (Fr.refl hk)⟩
theorem acted_8 {h : Heap} (hk : HOK h) {w : Value} {a : Int} (hw : LS h w [a] ints 1) : CW CC 66 [.agg ⟨[.int .i64 8, w]⟩] h fun r h' => r = .iface 276 (.int .i64 a) ∧ Fr h h' := by
  obtain ⟨bb, o, sp, c, row, rfl, hr, c0⟩ := ints_1 hw
  have nb := row_lt hk hr
  refine CW_in Tryz.f66 (by kernel_rfl) (by kernel_rfl) rfl rfl ?_
  simp only [Tryz.f66]
  simp (maxDischargeDepth := 30) only [AA, ↓reduceIte, Nat.reduceLT, Nat.reduceEqDiff, Nat.reduceAdd, Nat.reduceMul, reduceCtorEq, Nat.reduceLeDiff, Int.reduceNe, Int.reduceEq, XH, F66_S1, hk, hr, nb, c0, ix_0 (show 0 < 1 by omega), Int.reduceBEq, beq_self_eq_true]
  exact ⟨trivial, ex_fr _ (Fr.refl hk)⟩
theorem acted_9 {h : Heap} (hk : HOK h) {w : Value} {a b : Int} (hw : LS h w [a, b] ints 1) : CW CC 66 [.agg ⟨[.int .i64 9, w]⟩] h fun r h' => r = act2 278 a b ∧ Fr h h' := by
  obtain ⟨bb, o, sp, c, row, rfl, hr, c0, c1⟩ := ints_two hw
  have nb := row_lt hk hr
  refine CW_in Tryz.f66 (by kernel_rfl) (by kernel_rfl) rfl rfl ?_
  simp only [Tryz.f66]
  simp (maxDischargeDepth := 30) only [AA, ↓reduceIte, Nat.reduceLT, Nat.reduceEqDiff, Nat.reduceAdd, Nat.reduceMul, reduceCtorEq, Nat.reduceLeDiff, Int.reduceNe, Int.reduceEq, XH, F66_S1, hk, Int.reduceBEq, beq_self_eq_true]
  refine W_draw [(true, 0), (true, 1), (true, 2), (true, 3), (true, 4), (true, 5), (true, 6), (true, 7), (true, 8)] (by kernel_rfl) ?_
  simp (maxDischargeDepth := 30) only [AA, ↓reduceIte, Nat.reduceLT, Nat.reduceEqDiff, Nat.reduceAdd, Nat.reduceMul, reduceCtorEq, Nat.reduceLeDiff, Int.reduceNe, Int.reduceEq, AMR, XH, F66_S1, hk, hr, nb, c0, c1, ix_0 (show 0 < 2 by omega), ix_1 (show 1 < 2 by omega)]
  exact ⟨rfl, ex_fr _ (Fr.refl hk)⟩
theorem acted_10 {h : Heap} (hk : HOK h) {w : Value} {a : Int} (hw : LS h w [a] ints 1) : CW CC 66 [.agg ⟨[.int .i64 10, w]⟩] h fun r h' => r = .iface 279 (.int .i64 a) ∧ Fr h h' := by
  obtain ⟨bb, o, sp, c, row, rfl, hr, c0⟩ := ints_1 hw
  have nb := row_lt hk hr
  refine CW_in Tryz.f66 (by kernel_rfl) (by kernel_rfl) rfl rfl ?_
  simp only [Tryz.f66]
  simp (maxDischargeDepth := 30) only [AA, ↓reduceIte, Nat.reduceLT, Nat.reduceEqDiff, Nat.reduceAdd, Nat.reduceMul, reduceCtorEq, Nat.reduceLeDiff, Int.reduceNe, Int.reduceEq, XH, F66_S1, hk, hr, nb, c0, ix_0 (show 0 < 1 by omega), Int.reduceBEq, beq_self_eq_true]
  exact ⟨trivial, ex_fr _ (Fr.refl hk)⟩
theorem acted_11 {h : Heap} (hk : HOK h) {w : Value} {a b : Int} (hw : LS h w [a, b] ints 1) : CW CC 66 [.agg ⟨[.int .i64 11, w]⟩] h fun r h' => r = act2 281 a b ∧ Fr h h' := by
  obtain ⟨bb, o, sp, c, row, rfl, hr, c0, c1⟩ := ints_two hw
  have nb := row_lt hk hr
  refine CW_in Tryz.f66 (by kernel_rfl) (by kernel_rfl) rfl rfl ?_
  simp only [Tryz.f66]
  simp (maxDischargeDepth := 30) only [AA, ↓reduceIte, Nat.reduceLT, Nat.reduceEqDiff, Nat.reduceAdd, Nat.reduceMul, reduceCtorEq, Nat.reduceLeDiff, Int.reduceNe, Int.reduceEq, XH, F66_S1, hk, Int.reduceBEq, beq_self_eq_true]
  refine W_draw [(true, 0), (true, 1), (true, 2), (true, 3), (true, 4), (true, 5), (true, 6), (true, 7), (true, 8)] (by kernel_rfl) ?_
  simp (maxDischargeDepth := 30) only [AA, ↓reduceIte, Nat.reduceLT, Nat.reduceEqDiff, Nat.reduceAdd, Nat.reduceMul, reduceCtorEq, Nat.reduceLeDiff, Int.reduceNe, Int.reduceEq, AMR, XH, F66_S1, hk, hr, nb, c0, c1, ix_0 (show 0 < 2 by omega), ix_1 (show 1 < 2 by omega)]
  exact ⟨rfl, ex_fr _ (Fr.refl hk)⟩
end Go.Am
