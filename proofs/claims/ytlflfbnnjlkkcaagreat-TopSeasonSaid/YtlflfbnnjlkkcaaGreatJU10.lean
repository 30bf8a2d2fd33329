/- Parts U10, U11 of the abstract machine over this program, joined: what each part says stands at its head. -/
import Derived.Test.YtlflfbnnjlkkcaaGreatJU7
set_option linter.unusedSimpArgs false
set_option linter.unusedVariables false
set_option linter.defProp false
namespace Go.Am
open Go Go.Proofs
def F310_U10 := A2 @fp_177_0 <| A2 @fp_47_0 <| A2 @fp_47_1 <| A2 @fp_89_3 <| A2 @ix_22 <| A2 @ix_44 <| A2 @ld_22 <| A2 @ld_3 <| A2 @ld_44 <| A2 @ld_89 <| A2 @len_22 <| A2 @len_44 <| A2 @part_3 <| A2 @part_89 <| A2 @size_22 <| A2 @size_3 <| A2 @size_44 <| A2 @size_89 <| A2 @und_22 <| A2 @und_3 <| A2 @und_44 <| A2 @zero_22 <| A2 @zero_3 <| A2 @zero_44 @zero_89
theorem mk_22_0 : aMakeSlice CC 22 (.int .i64 0) (.int .i64 0) = some (.new (.row [] 1 true) (sliceTo 1 0 0)) := by kernel_rfl
theorem mk_22_1 : aMakeSlice CC 22 (.int .i64 1) (.int .i64 1) = some (.new (.row [.int .i64 0] 1 true) (sliceTo 1 1 1)) := by kernel_rfl
theorem mk_22_2 : aMakeSlice CC 22 (.int .i64 2) (.int .i64 2) = some (.new (.row [.int .i64 0, .int .i64 0] 1 true) (sliceTo 1 2 2)) := by kernel_rfl
theorem mk_22_3 : aMakeSlice CC 22 (.int .i64 3) (.int .i64 3) = some (.new (.row [.int .i64 0, .int .i64 0, .int .i64 0] 1 true) (sliceTo 1 3 3)) := by kernel_rfl
theorem mk_22_4 : aMakeSlice CC 22 (.int .i64 4) (.int .i64 4) = some (.new (.row [.int .i64 0, .int .i64 0, .int .i64 0, .int .i64 0] 1 true) (sliceTo 1 4 4)) := by kernel_rfl
set_option maxRecDepth 100000 in
theorem mk_22 {n : Nat} (hn : n ≤ 4) : aMakeSlice CC 22 (.int .i64 n) (.int .i64 n) = some (.new (.row (List.replicate n (.int .i64 0)) 1 true) (sliceTo 1 n n)) := by
  have hc : n = 0 ∨ n = 1 ∨ n = 2 ∨ n = 3 ∨ n = 4 := by omega
  rcases hc with rfl | rfl | rfl | rfl | rfl
  · exact mk_22_0
  · exact mk_22_1
  · exact mk_22_2
  · exact mk_22_3
  · exact mk_22_4
theorem zeros_flat (n : Nat) : (List.replicate n (0 : Int)).flatMap ints = List.replicate n (.int .i64 0) := by
  induction n with
  | zero => rfl
  | succ n ih => rw [List.replicate_succ, List.flatMap_cons, ih]; rfl
theorem ints_put {xs : List Int} {i : Nat} {x y : Int} (hx : xs[i]? = some x) : write? (xs.flatMap ints) i [.int .i64 y] = some ((xs.set i y).flatMap ints) := by
  have hi := (List.getElem?_eq_some_iff.1 hx).1
  rw [write_one _ _ _ (by rw [flat_len ints_len]; omega)]
  exact congrArg some (by simpa using flat_set ints_len xs i x y 0 (.int .i64 y) hx (by omega) rfl)
theorem ints_atP {xs : List Int} {i : Nat} {x : Int} (hx : xs[i]? = some x) : (xs.flatMap ints)[i]? = some (.int .i64 x) := by
  have h := flat_take ints_len xs i x hx
  have hi := (List.getElem?_eq_some_iff.1 hx).1
  have hl := flat_len ints_len xs
  rw [Nat.mul_one] at h hl
  have : ((xs.flatMap ints).drop i)[0]? = some (.int .i64 x) := by
    have := congrArg (·[0]?) h
    simpa [List.getElem?_take, ints] using this
  simpa using this
set_option maxRecDepth 10000 in
set_option maxHeartbeats 2000000 in
theorem parted_119 {h : Heap} (hk : HOK h) (hp : 0 < h.next) {v w : Value} {s : Sheet} {hs : List Int} {m : Nat} {l : List Int} (hv : IsBill h v s hs m) (hw : LS h w l ints 1) (ok : s.ok = true) (hl : l.length = s.boards.length) (hq : ∀ x ∈ l, 0 ≤ x ∧ x ≤ 1000) :
    CW CC 310 [v, w] h fun r h' => SL h.next h' r ((ownParts s.offs.length s.boards l).flatMap ints) 1 s.offs.length ∧ Fr h h' := by
  have hlen := Sheet.ok_len ok
  obtain ⟨a, b, c, d, rfl, hsh, hh⟩ := hv.ex
  obtain ⟨p1, c1, rfl, _⟩ := hsh.offs.open
  obtain ⟨p2, c2, rfl, x2⟩ := hsh.boards.open
  obtain ⟨p3, c3, rfl, _⟩ := hsh.tars.open
  obtain ⟨pd, cd, rfl, _⟩ := hh.open
  obtain ⟨pw, cw, rfl⟩ := hw.len
  refine CW_in Tryz.f310 (by kernel_rfl) (by kernel_rfl) rfl rfl ?_
  simp only [Tryz.f310]
  have f1 : Fr h ((h.alloc (.row [.slice p1 s.offs.length c1, .slice p2 s.boards.length c2, .slice p3 s.tars.length c3, .slice pd hs.length cd, .map (some m)] 0 true)).alloc (.row (List.replicate s.offs.length (.int .i64 0)) 1 true)) := ((Fr.refl hk).alloc _).alloc _
  have g1 : ((h.alloc (.row [.slice p1 s.offs.length c1, .slice p2 s.boards.length c2, .slice p3 s.tars.length c3, .slice pd hs.length cd, .map (some m)] 0 true)).alloc (.row (List.replicate s.offs.length (.int .i64 0)) 1 true)).get (h.next + 1) = some (.row ((ownParts s.offs.length (s.boards.take 0) (l.take 0)).flatMap ints) 1 true) := by
    rw [List.take_zero, List.take_zero, ownParts_zero, zeros_flat]
    exact get_at _ (by simp)
  have r1 : rowAt ((h.alloc (.row [.slice p1 s.offs.length c1, .slice p2 s.boards.length c2, .slice p3 s.tars.length c3, .slice pd hs.length cd, .map (some m)] 0 true)).alloc (.row (List.replicate s.offs.length (.int .i64 0)) 1 true)) h.next = some [.slice p1 s.offs.length c1, .slice p2 s.boards.length c2, .slice p3 s.tars.length c3, .slice pd hs.length cd, .map (some m)] := by
    rw [rowAt_old _ (by simp), rowAt_new]
  simp (maxDischargeDepth := 30) only [AA, ↓reduceIte, Nat.reduceLT, Nat.reduceEqDiff, Nat.reduceAdd, Nat.reduceMul, reduceCtorEq, Nat.reduceLeDiff, Int.reduceNe, Int.reduceEq, F310_U10, hk, mk_22 (by omega : s.offs.length ≤ 4)]
  generalize ((h.alloc (.row [.slice p1 s.offs.length c1, .slice p2 s.boards.length c2, .slice p3 s.tars.length c3, .slice pd hs.length cd, .map (some m)] 0 true)).alloc (.row (List.replicate s.offs.length (.int .i64 0)) 1 true)) = h1 at f1 g1 r1 ⊢
  refine W_loop s.boards.length (fun m' f h' => ∃ i, i ≤ s.boards.length ∧ m' = s.boards.length - i ∧ f 1 = .slice pw l.length cw ∧ f 5 = .slice (some ⟨h.next + 1, 0, some 1⟩) s.offs.length s.offs.length ∧ f 15 = .slice p2 s.boards.length c2 ∧ f 16 = .int .i64 s.boards.length ∧ f 17 = .int .i64 i ∧
      h'.get (h.next + 1) = some (.row ((ownParts s.offs.length (s.boards.take i) (l.take i)).flatMap ints) 1 true) ∧ Fr h h')
    ⟨0, by omega, by omega, by simp [upd_at, argsFn_at], by simp [upd_at], by simp [upd_at], by simp [upd_at], by simp [upd_at], g1, f1⟩ ?_
  clear f1 g1 r1
  rintro m' f h' ⟨i, hi, rfl, e1, e5, e15, e16, e17, g, fr⟩ ih
  have k' := fr.ok
  by_cases hil : i < s.boards.length
  · obtain ⟨B, gB⟩ : ∃ x, s.boards[i]? = some x := ⟨_, List.getElem?_eq_getElem hil⟩
    have hil' : i < l.length := by omega
    obtain ⟨x, gx⟩ : ∃ x, l[i]? = some x := ⟨_, List.getElem?_eq_getElem hil'⟩
    rcases x2 with hx | ⟨b2, o2, sp2, row2, rfl, rr2, x2⟩
    · rw [hx] at hil; simp at hil
    obtain ⟨b4, o4, sp4, row4, rfl, rr4, e4⟩ := hw.cell gx
    have eB : take? row2 (o2 + i * 5) 5 = some B.cells := (x2 _ _ gB).1
    have bok := of_decide_eq_true (Sheet.ok_boards ok B (List.mem_of_getElem? gB))
    obtain ⟨wn, hwn⟩ : ∃ n : Nat, B.ow = n := ⟨B.ow.toNat, by omega⟩
    have wl : wn < s.offs.length := by omega
    have gy := ownParts_get (bs := s.boards.take i) (l := l.take i) wl
    have yb := ownSum_b (k := (wn : Int)) (B := 1000) (by omega) (bs := s.boards.take i) (l := l.take i) fun z hz => hq z (List.mem_of_mem_take hz)
    have hxb := hq x (List.mem_of_getElem? gx)
    have lt4 : ((l.take i).length : Int) ≤ 4 := by rw [List.length_take]; omega
    have step := ownParts_step gB gx hwn wl gy
    generalize ownSum (wn : Int) (s.boards.take i) (l.take i) = y at gy yb step
    have rr2' := fr.row' hk rr2
    have rr4' := fr.row' hk rr4
    have bl : B.cells.length = 5 := rfl
    have ba : allOne B.cells = true := rfl
    have kb4 : B.cells[4]? = some (.int .i64 wn) := by rw [← hwn]; rfl
    simp (maxDischargeDepth := 30) only [AA, ↓reduceIte, Nat.reduceLT, Nat.reduceEqDiff, Nat.reduceAdd, Nat.reduceMul, reduceCtorEq, Nat.reduceLeDiff, Int.reduceNe, Int.reduceEq, F310_U10, k', e1, e5, e15, e16, e17, lt_t hil, hil, rr2', eB, bl, ba]
    have fb : Fr h' ((h'.alloc (.row [.int .i64 0, .int .i64 0, .int .i64 0, .int .i64 0, .int .i64 0] 0 true)).set h'.next (.row B.cells 0 true)) := ((Fr.refl k').alloc _).set (Nat.le_refl _) (by simp) _
    have rb : rowAt ((h'.alloc (.row [.int .i64 0, .int .i64 0, .int .i64 0, .int .i64 0, .int .i64 0] 0 true)).set h'.next (.row B.cells 0 true)) h'.next = some B.cells := rowAt_set_self _ _ _ _ _
    generalize ((h'.alloc (.row [.int .i64 0, .int .i64 0, .int .i64 0, .int .i64 0, .int .i64 0] 0 true)).set h'.next (.row B.cells 0 true)) = H at fb rb ⊢
    have f2 := fr.trans fb
    have gb := fb.get' k' g
    have rgb : rowAt H (h.next + 1) = some ((ownParts s.offs.length (s.boards.take i) (l.take i)).flatMap ints) := by unfold rowAt; rw [gb]; rfl
    have rr4b := fb.row' k' rr4'
    have ya := ints_atP gy
    have w1 : IntKind.i64.wrap (y + x) = y + x := wrap64 (by omega) (by omega)
    have put := ints_put (y := y + x) gy
    rw [step] at put
    refine W_draw [(true, 0), (true, 1), (true, 2), (true, 3), (true, 4), (true, 5), (true, 6), (true, 7), (true, 8), (true, 9), (true, 10), (true, 11)] (by kernel_rfl) ?_
    simp (maxDischargeDepth := 30) only [AA, ↓reduceIte, Nat.reduceLT, Nat.reduceEqDiff, Nat.reduceAdd, Nat.reduceMul, reduceCtorEq, Nat.reduceLeDiff, Int.reduceNe, Int.reduceEq, AMR, F310_U10, f2.ok, e1, e5, rb, kb4, wl, Nat.mul_one, rgb, ya, hil', rr4b, e4, w1, gb, put, e15, e16, e17, i_next hil (by omega : s.boards.length ≤ 1000)]
    refine ih (s.boards.length - (i + 1)) _ _ (by omega) ?_
    exact ⟨i + 1, by omega, rfl, by simp [upd_at, e1], by simp [upd_at, e5], by simp [upd_at, e15], by simp [upd_at, e16], by simp [upd_at], Heap.get_set_self _ _ _, f2.set (by omega) (get_lt f2.ok gb) _⟩
  · have : i = s.boards.length := by omega
    subst this
    rw [List.take_of_length_le (Nat.le_refl _), List.take_of_length_le (by omega)] at g
    simp (maxDischargeDepth := 30) only [AA, ↓reduceIte, Nat.reduceLT, Nat.reduceEqDiff, Nat.reduceAdd, Nat.reduceMul, reduceCtorEq, Nat.reduceLeDiff, Int.reduceNe, Int.reduceEq, F310_U10, k', e5, e16, e17, lt_f]
    exact ⟨.inr ⟨h.next + 1, rfl, by omega, by omega, g, by rw [flat_len ints_len, ownParts_len]⟩, fr⟩
end Go.Am

namespace Go.Am
open Go Go.Proofs
def F323_U11 := A2 @ix_436 <| A2 @ld_438 <| A2 @part_438 <| A2 @size_436 <| A2 @size_438 <| A2 @und_436 <| A2 @zero_436 @zero_438
theorem get_set {α : Type} {l : List α} {i : Nat} {x : α} {j : Nat} {y : α} (h : (l.set i x)[j]? = some y) : (j = i ∧ y = x) ∨ (j ≠ i ∧ l[j]? = some y) := by
  by_cases e : i = j
  · subst e
    have hl : i < l.length := by have := (List.getElem?_eq_some_iff.1 h).1; simpa using this
    rw [List.getElem?_set_self hl] at h
    simp at h; exact .inl ⟨rfl, h.symm⟩
  · rw [List.getElem?_set_ne e] at h
    exact .inr ⟨fun q => e q.symm, h⟩
theorem boolIs_undef (w : Bool) : boolIs w undef = false := rfl
def restC (o : Int × Nat) : List Value := [.int .i64 o.2, .int .i64 o.1]
theorem restC_len (o : Int × Nat) : (restC o).length = 2 := rfl
theorem flat_cell {α : Type} {f : α → List Value} {s : Nat} (hf : ∀ x, (f x).length = s) {xs : List α} {i : Nat} {x : α} (hx : xs[i]? = some x) : take? (xs.flatMap f) (i * s) s = some (f x) := by
  have hi := (List.getElem?_eq_some_iff.1 hx).1
  have h2 : i * s + s ≤ (xs.flatMap f).length := by
    rw [flat_len hf, ← Nat.succ_mul]; exact Nat.mul_le_mul_right s hi
  rw [take?_some h2, flat_take hf xs i x hx]
structure Kp (b : Nat) (h h' : Heap) : Prop where
  ok : HOK h'
  next : h.next ≤ h'.next
  get : ∀ i, i < h.next → i ≠ b → h'.get i = h.get i
theorem Kp.refl (b : Nat) {h : Heap} (hk : HOK h) : Kp b h h := ⟨hk, Nat.le_refl _, fun _ _ _ => rfl⟩
theorem Kp.fr {b : Nat} {h h1 h2 : Heap} (q : Kp b h h1) (f : Fr h1 h2) : Kp b h h2 := ⟨f.ok, Nat.le_trans q.next f.next, fun i hi hb => (f.get i (Nat.lt_of_lt_of_le hi q.next)).trans (q.get i hi hb)⟩
theorem Kp.set {b : Nat} {h h1 : Heap} (q : Kp b h h1) (hb : b < h1.next) (x : AObj) : Kp b h (h1.set b x) := ⟨q.ok.set hb _, by rw [Heap.next_set]; exact q.next, fun i hi hne => by rw [Heap.get_set_ne _ _ (fun e => hne e)]; exact q.get i hi hne⟩
theorem Kp.toFr {b : Nat} {h0 h h' : Heap} (f : Fr h0 h) (q : Kp b h h') (hb : h0.next ≤ b) : Fr h0 h' := ⟨q.ok, Nat.le_trans f.next q.next, fun i hi => (q.get i (Nat.lt_of_lt_of_le hi f.next) (by omega)).trans (f.get i hi)⟩
theorem more_122 (a b p q : Int) (hp : -1000000000 ≤ p ∧ p ≤ 1000000000) (hq : -1000000000 ≤ q ∧ q ≤ 1000000000) {h : Heap} (hk : HOK h) : CW CC 312 [.agg ⟨[.int .i64 a, .int .i64 p]⟩, .agg ⟨[.int .i64 b, .int .i64 q]⟩] h fun r h' => r = .int .i64 (q - p) ∧ Fr h h' := by
  refine CW_in Tryz.f312 (by kernel_rfl) (by kernel_rfl) rfl rfl ?_
  simp only [Tryz.f312]
  simp (maxDischargeDepth := 30) only [AA, ↓reduceIte, Nat.reduceLT, Nat.reduceEqDiff, Nat.reduceAdd, Nat.reduceMul, reduceCtorEq, Nat.reduceLeDiff, Int.reduceNe, Int.reduceEq, fp_438_1, ld_3, hk, wrap64 (n := q - p) (by omega) (by omega)]
  exact ⟨trivial, ((Fr.refl hk).alloc _).alloc _⟩
def InB (L : List (Int × Nat)) : Prop := ∀ (i : Nat) p, L[i]? = some p → -1000000000 ≤ p.1 ∧ p.1 ≤ 1000000000
theorem InB.swap {L : List (Int × Nat)} (h : InB L) {j : Nat} {p q : Int × Nat} (hp : L[j + 1]? = some p) (hq : L[j]? = some q) : InB ((L.set (j + 1) q).set j p) := by
  intro i x hx
  rcases get_set hx with ⟨_, rfl⟩ | ⟨_, hx⟩
  · exact h _ _ hp
  · rcases get_set hx with ⟨_, rfl⟩ | ⟨_, hx⟩
    · exact h _ _ hq
    · exact h _ _ hx
theorem key_at {L : List (Int × Nat)} {i : Nat} {p : Int × Nat} (h : L[i]? = some p) : key L i = p.1 := by simp [key, List.getD, h]
theorem swap_at {L : List (Int × Nat)} {j : Nat} {p q : Int × Nat} (hp : L[j + 1]? = some p) (hq : L[j]? = some q) : swapAt L j = (L.set (j + 1) q).set j p := by simp [swapAt, List.getD, hp, hq]
set_option maxRecDepth 10000 in
set_option maxHeartbeats 2000000 in
theorem insertion_157 {h : Heap} (hk : HOK h) {b c : Nat} {sp : Option Nat} {L : List (Int × Nat)} (g : h.get b = some (.row (L.flatMap restC) 2 true)) (hB : InB L) (h1 : 1 ≤ L.length) (hn : L.length ≤ 1000) :
    CW CC 323 [.slice (some ⟨b, 0, sp⟩) L.length c, .int .i64 0, .int .i64 L.length, .func (.func 312) #[] #[]] h fun _ h' => h'.get b = some (.row ((sortFrom (L.length - 1) 1 L).flatMap restC) 2 true) ∧ Kp b h h' := by
  have bl := get_lt hk g
  refine CW_in Tryz.f323 (by kernel_rfl) (by kernel_rfl) rfl rfl ?_
  simp only [Tryz.f323]
  have w0 : IntKind.i64.wrap (0 + 1) = ((1 : Nat) : Int) := rfl
  simp (maxDischargeDepth := 30) only [AA, ↓reduceIte, Nat.reduceLT, Nat.reduceEqDiff, Nat.reduceAdd, Nat.reduceMul, reduceCtorEq, Nat.reduceLeDiff, Int.reduceNe, Int.reduceEq, F323_U11, hk, w0]
  refine W_loop (L.length - 1) (fun m' f h' => ∃ i M, 1 ≤ i ∧ i ≤ L.length ∧ m' = L.length - i ∧ M.length = L.length ∧ InB M ∧ f 0 = .slice (some ⟨b, 0, sp⟩) L.length c ∧ f 1 = .int .i64 0 ∧ f 2 = .int .i64 L.length ∧ f 3 = .func (.func 312) #[] #[] ∧ f 8 = .int .i64 (i : Nat) ∧
      sortFrom (L.length - i) i M = sortFrom (L.length - 1) 1 L ∧ h'.get b = some (.row (M.flatMap restC) 2 true) ∧ Kp b h h')
    ⟨1, L, by omega, by omega, rfl, rfl, hB, by simp [upd_at, argsFn_at], by simp [upd_at, argsFn_at], by simp [upd_at, argsFn_at], by simp [upd_at, argsFn_at], by simp [upd_at], rfl, g, Kp.refl b hk⟩ ?_
  rintro m' f h' ⟨i, M, hi1, hi, rfl, hM, hMB, g0, g1, g2, g3, g8, hs, gb, kp⟩ ih
  have k' := kp.ok
  by_cases hil : i < L.length
  · simp (maxDischargeDepth := 30) only [AA, ↓reduceIte, Nat.reduceLT, Nat.reduceEqDiff, Nat.reduceAdd, Nat.reduceMul, reduceCtorEq, Nat.reduceLeDiff, Int.reduceNe, Int.reduceEq, F323_U11, k', g0, g1, g2, g3, g8, lt_t hil]
    refine W_loop i (fun m' f h' => ∃ N, m' ≤ i ∧ N.length = L.length ∧ InB N ∧ f 0 = .slice (some ⟨b, 0, sp⟩) L.length c ∧ f 1 = .int .i64 0 ∧ f 2 = .int .i64 L.length ∧ f 3 = .func (.func 312) #[] #[] ∧ f 8 = .int .i64 (i : Nat) ∧ f 9 = .int .i64 (m' : Nat) ∧
        sink m' N = sink i M ∧ h'.get b = some (.row (N.flatMap restC) 2 true) ∧ Kp b h h')
      ⟨M, by omega, hM, hMB, by simp [upd_at, g0], by simp [upd_at, g1], by simp [upd_at, g2], by simp [upd_at, g3], by simp [upd_at, g8], by simp [upd_at], rfl, gb, kp⟩ ?_
    clear g0 g1 g2 g3 g8 gb kp k'
    rintro j f h' ⟨N, hji, hN, hNB, g0, g1, g2, g3, g8, g9, hsk, gb, kp⟩ ih2
    have k' := kp.ok
    have bl' : b < h'.next := get_lt k' gb
    have wi : IntKind.i64.wrap ((i : Int) + 1) = ((i + 1 : Nat) : Int) := by rw [wrap64 (by omega) (by omega)]; omega
    have hfin : sink i M = N → sortFrom (L.length - (i + 1)) (i + 1) N = sortFrom (L.length - 1) 1 L := fun e => by
      rw [← hs, show L.length - i = (L.length - (i + 1)) + 1 by omega]
      show _ = sortFrom (L.length - (i + 1)) (i + 1) (sink i M)
      rw [e]
    cases j with
    | zero =>
      have z : decide (((0 : Nat) : Int) > 0) = false := rfl
      simp (maxDischargeDepth := 30) only [AA, ↓reduceIte, Nat.reduceLT, Nat.reduceEqDiff, Nat.reduceAdd, Nat.reduceMul, reduceCtorEq, Nat.reduceLeDiff, Int.reduceNe, Int.reduceEq, F323_U11, k']
      refine W_draw [(true, 0), (true, 1), (true, 2), (true, 3), (true, 4), (true, 5), (true, 6), (true, 7), (true, 8), (true, 9), (true, 10), (true, 11), (true, 12), (true, 13), (true, 14), (true, 15), (true, 16)] (by kernel_rfl) ?_
      simp (maxDischargeDepth := 30) only [AA, ↓reduceIte, Nat.reduceLT, Nat.reduceEqDiff, Nat.reduceAdd, Nat.reduceMul, reduceCtorEq, Nat.reduceLeDiff, Int.reduceNe, Int.reduceEq, AMR, F323_U11, k', g0, g1, g2, g3, g8, g9, z, boolIs_undef, wi]
      refine ih (L.length - (i + 1)) _ _ (by omega) ?_
      exact ⟨i + 1, N, by omega, by omega, rfl, hN, hNB, by simp [upd_at, g0], by simp [upd_at, g1], by simp [upd_at, g2], by simp [upd_at, g3], by simp [upd_at], hfin hsk.symm, gb, kp⟩
    | succ j =>
      have hjl : j + 1 < L.length := by omega
      have hjl' : j < L.length := by omega
      obtain ⟨p, gp⟩ : ∃ p, N[j + 1]? = some p := ⟨_, List.getElem?_eq_getElem (by omega)⟩
      obtain ⟨q, gq⟩ : ∃ q, N[j]? = some q := ⟨_, List.getElem?_eq_getElem (by omega)⟩
      have pb := hNB _ _ gp
      have qb := hNB _ _ gq
      have rb : rowAt h' b = some (N.flatMap restC) := by unfold rowAt; rw [gb]; rfl
      have ep : take? (N.flatMap restC) ((j + 1) * 2) 2 = some [.int .i64 p.2, .int .i64 p.1] := flat_cell restC_len gp
      have eq' : take? (N.flatMap restC) (j * 2) 2 = some [.int .i64 q.2, .int .i64 q.1] := flat_cell restC_len gq
      have z : decide (((j + 1 : Nat) : Int) > 0) = true := decide_eq_true (by omega)
      have wj : IntKind.i64.wrap (((j + 1 : Nat) : Int) - 1) = (j : Int) := by rw [wrap64 (by omega) (by omega)]; omega
      have kc1 : [Value.int .i64 p.2, Value.int .i64 p.1].all selfC = true := rfl
      have kc2 : [Value.int .i64 q.2, Value.int .i64 q.1].all selfC = true := rfl
      simp (maxDischargeDepth := 30) only [AA, ↓reduceIte, Nat.reduceLT, Nat.reduceEqDiff, Nat.reduceAdd, Nat.reduceMul, reduceCtorEq, Nat.reduceLeDiff, Int.reduceNe, Int.reduceEq, F323_U11, k']
      refine W_draw [(true, 0), (true, 1), (true, 2), (true, 3), (true, 4), (true, 5), (true, 6), (true, 7), (true, 8), (true, 9), (true, 10), (true, 11), (true, 12), (true, 13), (true, 14), (true, 15), (true, 16)] (by kernel_rfl) ?_
      simp (maxDischargeDepth := 30) only [AA, ↓reduceIte, Nat.reduceLT, Nat.reduceEqDiff, Nat.reduceAdd, Nat.reduceMul, reduceCtorEq, Nat.reduceLeDiff, Int.reduceNe, Int.reduceEq, F323_U11, k', g0, g1, g2, g3, g8, g9, z, wj, hjl, hjl', rb, ep, eq', V_func]
      refine W_callP (more_122 p.2 q.2 p.1 q.1 pb qb k') ?_
      rintro _ h3 ⟨rfl, fr3⟩
      have k3 := kp.fr fr3
      have gb3 := fr3.get' k' gb
      have rb3 := fr3.row' k' rb
      cases hlt : decide (q.1 - p.1 < 0) with
      | false =>
        have hlt' := of_decide_eq_false hlt
        have hst : sink (j + 1) N = N := by
          unfold sink
          rw [key_at gp, key_at gq, if_neg (by omega)]
        simp (maxDischargeDepth := 30) only [AA, ↓reduceIte, Nat.reduceLT, Nat.reduceEqDiff, Nat.reduceAdd, Nat.reduceMul, reduceCtorEq, Nat.reduceLeDiff, Int.reduceNe, Int.reduceEq, AMR, F323_U11, k3.ok, g0, g1, g2, g3, g8, g9, z, wj, hjl, hjl', rb3, ep, eq', kc1, kc2, hlt, wi]
        refine ih (L.length - (i + 1)) _ _ (by omega) ?_
        exact ⟨i + 1, N, by omega, by omega, rfl, hN, hNB, by simp [upd_at, g0], by simp [upd_at, g1], by simp [upd_at, g2], by simp [upd_at, g3], by simp [upd_at], hfin (by rw [← hsk, hst]), gb3, k3⟩
      | true =>
        have hlt' := of_decide_eq_true hlt
        have hst : sink (j + 1) N = sink j ((N.set (j + 1) q).set j p) := by
          rw [← swap_at gp gq]
          conv => lhs; unfold sink
          rw [key_at gp, key_at gq, if_pos (by omega)]
        have w1 : write? (N.flatMap restC) ((j + 1) * 2) [.int .i64 q.2, .int .i64 q.1] = some ((N.set (j + 1) q).flatMap restC) := write_put restC_len (by omega) q (by omega)
        have w2 : write? ((N.set (j + 1) q).flatMap restC) (j * 2) [.int .i64 p.2, .int .i64 p.1] = some (((N.set (j + 1) q).set j p).flatMap restC) := write_put restC_len (by omega) p (by rw [List.length_set]; omega)
        have gb4 : (h3.set b (.row ((N.set (j + 1) q).flatMap restC) 2 true)).get b = some (.row ((N.set (j + 1) q).flatMap restC) 2 true) := Heap.get_set_self _ _ _
        have bl3 := get_lt k3.ok gb3
        simp (maxDischargeDepth := 30) only [AA, ↓reduceIte, Nat.reduceLT, Nat.reduceEqDiff, Nat.reduceAdd, Nat.reduceMul, reduceCtorEq, Nat.reduceLeDiff, Int.reduceNe, Int.reduceEq, AMR, F323_U11, k3.ok, g0, g1, g2, g3, g8, g9, z, wj, hjl, hjl', rb3, ep, eq', kc1, kc2, hlt]
        refine W_draw [(true, 0), (true, 1), (true, 2), (true, 3), (true, 4), (true, 5), (true, 6), (true, 7), (true, 8), (true, 9), (true, 10), (true, 11), (true, 12), (true, 13), (true, 14), (true, 15), (true, 16), (true, 17)] (by kernel_rfl) ?_
        simp (maxDischargeDepth := 30) only [AA, ↓reduceIte, Nat.reduceLT, Nat.reduceEqDiff, Nat.reduceAdd, Nat.reduceMul, reduceCtorEq, Nat.reduceLeDiff, Int.reduceNe, Int.reduceEq, AMR, F323_U11, k3.ok, g0, g1, g2, g3, g8, g9, z, wj, hjl, hjl', rb3, ep, eq', gb3, w1, gb4, w2]
        refine ih2 j _ _ (by omega) ?_
        exact ⟨_, by omega, by rw [List.length_set, List.length_set]; exact hN, hNB.swap gp gq, by simp [upd_at, g0], by simp [upd_at, g1], by simp [upd_at, g2], by simp [upd_at, g3], by simp [upd_at, g8], by simp [upd_at], by rw [← hst]; exact hsk, Heap.get_set_self _ _ _, (k3.set bl3 _).set (by rw [Heap.next_set]; exact bl3) _⟩
  · have : i = L.length := by omega
    subst this
    have e0 : L.length - L.length = 0 := by omega
    rw [e0] at hs
    have hs : M = sortFrom (L.length - 1) 1 L := hs
    simp (maxDischargeDepth := 30) only [AA, ↓reduceIte, Nat.reduceLT, Nat.reduceEqDiff, Nat.reduceAdd, Nat.reduceMul, reduceCtorEq, Nat.reduceLeDiff, Int.reduceNe, Int.reduceEq, F323_U11, k', g8, g2, lt_f, Post_fin]
    rw [← hs]
    exact ⟨gb, kp⟩
set_option maxRecDepth 10000 in
set_option maxHeartbeats 1000000 in
theorem stable_143 {h : Heap} (hk : HOK h) {b c : Nat} {sp : Option Nat} {L : List (Int × Nat)} (g : h.get b = some (.row (L.flatMap restC) 2 true)) (hB : InB L) (h1 : 1 ≤ L.length) (hn : L.length ≤ 10) :
    CW CC 320 [.slice (some ⟨b, 0, sp⟩) L.length c, .int .i64 L.length, .func (.func 312) #[] #[]] h fun _ h' => h'.get b = some (.row ((sortFrom (L.length - 1) 1 L).flatMap restC) 2 true) ∧ Kp b h h' := by
  refine CW_in Tryz.f320 (by kernel_rfl) (by kernel_rfl) rfl rfl ?_
  simp only [Tryz.f320]
  have d1 : decide ((20 : Int) ≤ (L.length : Int)) = false := by simp; omega
  have d2 : decide ((20 : Int) < (L.length : Int)) = false := by simp; omega
  simp (maxDischargeDepth := 30) only [AA, ↓reduceIte, Nat.reduceLT, Nat.reduceEqDiff, Nat.reduceAdd, Nat.reduceMul, reduceCtorEq, Nat.reduceLeDiff, Int.reduceNe, Int.reduceEq, L_nil, hk]
  rw [L_inLoop]
  simp (maxDischargeDepth := 30) only [AA, ↓reduceIte, Nat.reduceLT, Nat.reduceEqDiff, Nat.reduceAdd, Nat.reduceMul, reduceCtorEq, Nat.reduceLeDiff, Int.reduceNe, Int.reduceEq, L_nil, hk, d1]
  refine W_call (insertion_157 hk g hB h1 (by omega)) ?_
  rintro _ h3 ⟨g3, k3⟩
  simp (maxDischargeDepth := 30) only [AA, ↓reduceIte, Nat.reduceLT, Nat.reduceEqDiff, Nat.reduceAdd, Nat.reduceMul, reduceCtorEq, Nat.reduceLeDiff, Int.reduceNe, Int.reduceEq, L_nil, k3.ok]
  rw [L_inLoop]
  simp (maxDischargeDepth := 30) only [AA, ↓reduceIte, Nat.reduceLT, Nat.reduceEqDiff, Nat.reduceAdd, Nat.reduceMul, reduceCtorEq, Nat.reduceLeDiff, Int.reduceNe, Int.reduceEq, L_nil, k3.ok, d2, Post_fin]
  exact ⟨g3, k3⟩
theorem sort_121 {h : Heap} (hk : HOK h) {b c : Nat} {sp : Option Nat} {L : List (Int × Nat)} (g : h.get b = some (.row (L.flatMap restC) 2 true)) (hB : InB L) (h1 : 1 ≤ L.length) (hn : L.length ≤ 10) :
    CW CC 311 [.slice (some ⟨b, 0, sp⟩) L.length c, .func (.func 312) #[] #[]] h fun _ h' => h'.get b = some (.row ((sortFrom (L.length - 1) 1 L).flatMap restC) 2 true) ∧ Kp b h h' := by
  refine CW_in Tryz.f311 (by kernel_rfl) (by kernel_rfl) rfl rfl ?_
  simp only [Tryz.f311]
  simp (maxDischargeDepth := 30) only [AA, ↓reduceIte, Nat.reduceLT, Nat.reduceEqDiff, Nat.reduceAdd, Nat.reduceMul, reduceCtorEq, Nat.reduceLeDiff, Int.reduceNe, Int.reduceEq, len_436, hk]
  refine W_call (stable_143 hk g hB h1 hn) ?_
  rintro _ h3 ⟨g3, k3⟩
  simp (maxDischargeDepth := 30) only [AA, ↓reduceIte, Nat.reduceLT, Nat.reduceEqDiff, Nat.reduceAdd, Nat.reduceMul, reduceCtorEq, Nat.reduceLeDiff, Int.reduceNe, Int.reduceEq, len_436, k3.ok, Post_fin]
  exact ⟨g3, k3⟩
end Go.Am
