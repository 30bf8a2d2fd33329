/- Parts 99 of the abstract machine over this program, joined: what each part says stands at its head. -/
import Derived.Test.YtfnkjclplfhjcaaGreatDoorJ98
set_option linter.unusedSimpArgs false
set_option linter.unusedVariables false
/- The abstract machine, part 99: contracts: the stable sort of what is left of divisions. -/
namespace Go.Am
open Go Go.Proofs

theorem Post_fin (C : Ctx) (rs : List ResultVar) (Q : Value → Heap → Prop) (n : Nat) (f : Nat → Value) (h : Heap) : Post C rs Q (.ended none) ⟨T n f, [], none⟩ h ↔ PR Q h (readResults C (T n f) h rs) := by
  simp [Post]

def restC (o : Int × Nat) : List Value := [.int .i64 o.2, .int .i64 o.1]
theorem restC_len (o : Int × Nat) : (restC o).length = 2 := rfl
theorem flat_cell {α : Type} {f : α → List Value} {s : Nat} (hf : ∀ x, (f x).length = s) {xs : List α} {i : Nat} {x : α} (hx : xs[i]? = some x) : take? (xs.flatMap f) (i * s) s = some (f x) := by
  have hi := (List.getElem?_eq_some_iff.1 hx).1
  have h2 : i * s + s ≤ (xs.flatMap f).length := by
    rw [flat_len hf, ← Nat.succ_mul]; exact Nat.mul_le_mul_right s hi
  rw [take?_some h2, flat_take hf xs i x hx]

/-- all but one row is as it was -/
structure Kp (b : Nat) (h h' : Heap) : Prop where
  ok : HOK h'
  next : h.next ≤ h'.next
  get : ∀ i, i < h.next → i ≠ b → h'.get i = h.get i
theorem Kp.refl (b : Nat) {h : Heap} (hk : HOK h) : Kp b h h := ⟨hk, Nat.le_refl _, fun _ _ _ => rfl⟩
theorem Kp.fr {b : Nat} {h h1 h2 : Heap} (q : Kp b h h1) (f : Fr h1 h2) : Kp b h h2 := ⟨f.ok, Nat.le_trans q.next f.next, fun i hi hb => (f.get i (Nat.lt_of_lt_of_le hi q.next)).trans (q.get i hi hb)⟩
theorem Kp.set {b : Nat} {h h1 : Heap} (q : Kp b h h1) (hb : b < h1.next) (x : AObj) : Kp b h (h1.set b x) := ⟨q.ok.set hb _, by rw [Heap.next_set]; exact q.next, fun i hi hne => by rw [Heap.get_set_ne _ _ (fun e => hne e)]; exact q.get i hi hne⟩
theorem Kp.trans {b : Nat} {h h1 h2 : Heap} (q : Kp b h h1) (q' : Kp b h1 h2) : Kp b h h2 := ⟨q'.ok, Nat.le_trans q.next q'.next, fun i hi hb => (q'.get i (Nat.lt_of_lt_of_le hi q.next) hb).trans (q.get i hi hb)⟩
theorem Kp.toFr {b : Nat} {h0 h h' : Heap} (f : Fr h0 h) (q : Kp b h h') (hb : h0.next ≤ b) : Fr h0 h' := ⟨q.ok, Nat.le_trans f.next q.next, fun i hi => (q.get i (Nat.lt_of_lt_of_le hi f.next) (by omega)).trans (f.get i hi)⟩

theorem more_122 (a b p q : Int) (hp : -1000000000 ≤ p ∧ p ≤ 1000000000) (hq : -1000000000 ≤ q ∧ q ≤ 1000000000) {h : Heap} (hk : HOK h) : CW CC 122 [.agg ⟨[.int .i64 a, .int .i64 p]⟩, .agg ⟨[.int .i64 b, .int .i64 q]⟩] h fun r h' => r = .int .i64 (q - p) ∧ Fr h h' := by
  refine CW_in Tryz.f122 (by kernel_rfl) (by kernel_rfl) rfl rfl ?_
  simp only [Tryz.f122]
  simp (maxDischargeDepth := 30) only [AMS, AMH, ↓reduceIte, Nat.reduceLT, Nat.reduceEqDiff, Nat.reduceAdd, Nat.reduceMul, reduceCtorEq, decide_true, decide_false, Nat.reduceLeDiff, Int.reduceNe, Int.reduceEq, ne_eq, not_false_eq_true, and_self, fp_139_1, ld_3, hk, wrap64 (n := q - p) (by omega) (by omega)]
  exact ⟨trivial, ((Fr.refl hk).alloc _).alloc _⟩

def InB (L : List (Int × Nat)) : Prop := ∀ (i : Nat) p, L[i]? = some p → -1000000000 ≤ p.1 ∧ p.1 ≤ 1000000000
theorem InB.swap {L : List (Int × Nat)} (h : InB L) {j : Nat} {p q : Int × Nat} (hp : L[j + 1]? = some p) (hq : L[j]? = some q) : InB ((L.set (j + 1) q).set j p) := by
  intro i x hx
  rcases get_set hx with ⟨_, rfl⟩ | ⟨_, hx⟩
  · exact h _ _ hp
  · rcases get_set hx with ⟨_, rfl⟩ | ⟨_, hx⟩
    · exact h _ _ hq
    · exact h _ _ hx
theorem key_at {L : List (Int × Nat)} {i : Nat} {p : Int × Nat} (h : L[i]? = some p) : key L i = p.1 := by simp [key, List.getD, h]
theorem swap_at {L : List (Int × Nat)} {j : Nat} {p q : Int × Nat} (hp : L[j + 1]? = some p) (hq : L[j]? = some q) : swapAt L j = (L.set (j + 1) q).set j p := by simp [swapAt, List.getD, hp, hq]

set_option maxRecDepth 10000 in
set_option maxHeartbeats 2000000 in
theorem insertion_157 {h : Heap} (hk : HOK h) {b c : Nat} {sp : Option Nat} {L : List (Int × Nat)} (g : h.get b = some (.row (L.flatMap restC) 2 true)) (hB : InB L) (h1 : 1 ≤ L.length) (hn : L.length ≤ 1000) :
    CW CC 157 [.slice (some ⟨b, 0, sp⟩) L.length c, .int .i64 0, .int .i64 L.length, .func (.func 122) #[] #[]] h fun _ h' => h'.get b = some (.row ((sortFrom (L.length - 1) 1 L).flatMap restC) 2 true) ∧ Kp b h h' := by
  have bl := get_lt hk g
  refine CW_in Tryz.f157 (by kernel_rfl) (by kernel_rfl) rfl rfl ?_
  simp only [Tryz.f157]
  have w0 : IntKind.i64.wrap (0 + 1) = ((1 : Nat) : Int) := rfl
  simp (maxDischargeDepth := 30) only [AMS, AMH, ↓reduceIte, Nat.reduceLT, Nat.reduceEqDiff, Nat.reduceAdd, Nat.reduceMul, reduceCtorEq, decide_true, decide_false, Nat.reduceLeDiff, Int.reduceNe, Int.reduceEq, ne_eq, not_false_eq_true, and_self, ix_137, ld_139, part_139, size_137, size_139, und_137, zero_137, zero_139, hk, w0]
  refine W_loop (L.length - 1) (fun m' f h' => ∃ i M, 1 ≤ i ∧ i ≤ L.length ∧ m' = L.length - i ∧ M.length = L.length ∧ InB M ∧ f 0 = .slice (some ⟨b, 0, sp⟩) L.length c ∧ f 1 = .int .i64 0 ∧ f 2 = .int .i64 L.length ∧ f 3 = .func (.func 122) #[] #[] ∧ f 8 = .int .i64 (i : Nat) ∧
      sortFrom (L.length - i) i M = sortFrom (L.length - 1) 1 L ∧ h'.get b = some (.row (M.flatMap restC) 2 true) ∧ Kp b h h')
    ⟨1, L, by omega, by omega, rfl, rfl, hB, by simp [upd_at, argsFn_at], by simp [upd_at, argsFn_at], by simp [upd_at, argsFn_at], by simp [upd_at, argsFn_at], by simp [upd_at], rfl, g, Kp.refl b hk⟩ ?_
  rintro m' f h' ⟨i, M, hi1, hi, rfl, hM, hMB, g0, g1, g2, g3, g8, hs, gb, kp⟩ ih
  have k' := kp.ok
  by_cases hil : i < L.length
  · simp (maxDischargeDepth := 30) only [AMS, AMH, ↓reduceIte, Nat.reduceLT, Nat.reduceEqDiff, Nat.reduceAdd, Nat.reduceMul, reduceCtorEq, decide_true, decide_false, Nat.reduceLeDiff, Int.reduceNe, Int.reduceEq, ne_eq, not_false_eq_true, and_self, ix_137, ld_139, part_139, size_137, size_139, und_137, zero_137, zero_139, k', g0, g1, g2, g3, g8, lt_t hil]
    refine W_loop i (fun m' f h' => ∃ N, m' ≤ i ∧ N.length = L.length ∧ InB N ∧ f 0 = .slice (some ⟨b, 0, sp⟩) L.length c ∧ f 1 = .int .i64 0 ∧ f 2 = .int .i64 L.length ∧ f 3 = .func (.func 122) #[] #[] ∧ f 8 = .int .i64 (i : Nat) ∧ f 9 = .int .i64 (m' : Nat) ∧
        sink m' N = sink i M ∧ h'.get b = some (.row (N.flatMap restC) 2 true) ∧ Kp b h h')
      ⟨M, by omega, hM, hMB, by simp [upd_at, g0], by simp [upd_at, g1], by simp [upd_at, g2], by simp [upd_at, g3], by simp [upd_at, g8], by simp [upd_at], rfl, gb, kp⟩ ?_
    clear g0 g1 g2 g3 g8 gb kp k'
    rintro j f h' ⟨N, hji, hN, hNB, g0, g1, g2, g3, g8, g9, hsk, gb, kp⟩ ih2
    have k' := kp.ok
    have bl' : b < h'.next := get_lt k' gb
    have wi : IntKind.i64.wrap ((i : Int) + 1) = ((i + 1 : Nat) : Int) := by rw [wrap64 (by omega) (by omega)]; omega
    have hfin : sink i M = N → sortFrom (L.length - (i + 1)) (i + 1) N = sortFrom (L.length - 1) 1 L := fun e => by
      rw [← hs, show L.length - i = (L.length - (i + 1)) + 1 by omega]
      show _ = sortFrom (L.length - (i + 1)) (i + 1) (sink i M)
      rw [e]
    cases j with
    | zero =>
      have z : decide (((0 : Nat) : Int) > 0) = false := rfl
      simp (maxDischargeDepth := 30) only [AMS, AMH, ↓reduceIte, Nat.reduceLT, Nat.reduceEqDiff, Nat.reduceAdd, Nat.reduceMul, reduceCtorEq, decide_true, decide_false, Nat.reduceLeDiff, Int.reduceNe, Int.reduceEq, ne_eq, not_false_eq_true, and_self, ix_137, ld_139, part_139, size_137, size_139, und_137, zero_137, zero_139, k']
      refine W_draw [(true, 0), (true, 1), (true, 2), (true, 3), (true, 4), (true, 5), (true, 6), (true, 7), (true, 8), (true, 9), (true, 10), (true, 11), (true, 12), (true, 13), (true, 14), (true, 15), (true, 16)] (by kernel_rfl) ?_
      simp (maxDischargeDepth := 30) only [AMS, AMH, ↓reduceIte, Nat.reduceLT, Nat.reduceEqDiff, Nat.reduceAdd, Nat.reduceMul, reduceCtorEq, decide_true, decide_false, Nat.reduceLeDiff, Int.reduceNe, Int.reduceEq, ne_eq, not_false_eq_true, and_self, AMR, ix_137, ld_139, part_139, size_137, size_139, und_137, zero_137, zero_139, k', g0, g1, g2, g3, g8, g9, z, boolIs_undef, wi]
      refine ih (L.length - (i + 1)) _ _ (by omega) ?_
      exact ⟨i + 1, N, by omega, by omega, rfl, hN, hNB, by simp [upd_at, g0], by simp [upd_at, g1], by simp [upd_at, g2], by simp [upd_at, g3], by simp [upd_at], hfin hsk.symm, gb, kp⟩
    | succ j =>
      have hjl : j + 1 < L.length := by omega
      have hjl' : j < L.length := by omega
      obtain ⟨p, gp⟩ : ∃ p, N[j + 1]? = some p := ⟨_, List.getElem?_eq_getElem (by omega)⟩
      obtain ⟨q, gq⟩ : ∃ q, N[j]? = some q := ⟨_, List.getElem?_eq_getElem (by omega)⟩
      have pb := hNB _ _ gp
      have qb := hNB _ _ gq
      have rb : rowAt h' b = some (N.flatMap restC) := by unfold rowAt; rw [gb]; rfl
      have ep : take? (N.flatMap restC) ((j + 1) * 2) 2 = some [.int .i64 p.2, .int .i64 p.1] := flat_cell restC_len gp
      have eq' : take? (N.flatMap restC) (j * 2) 2 = some [.int .i64 q.2, .int .i64 q.1] := flat_cell restC_len gq
      have z : decide (((j + 1 : Nat) : Int) > 0) = true := decide_eq_true (by omega)
      have wj : IntKind.i64.wrap (((j + 1 : Nat) : Int) - 1) = (j : Int) := by rw [wrap64 (by omega) (by omega)]; omega
      have kc1 : [Value.int .i64 p.2, Value.int .i64 p.1].all selfC = true := rfl
      have kc2 : [Value.int .i64 q.2, Value.int .i64 q.1].all selfC = true := rfl
      simp (maxDischargeDepth := 30) only [AMS, AMH, ↓reduceIte, Nat.reduceLT, Nat.reduceEqDiff, Nat.reduceAdd, Nat.reduceMul, reduceCtorEq, decide_true, decide_false, Nat.reduceLeDiff, Int.reduceNe, Int.reduceEq, ne_eq, not_false_eq_true, and_self, ix_137, ld_139, part_139, size_137, size_139, und_137, zero_137, zero_139, k']
      refine W_draw [(true, 0), (true, 1), (true, 2), (true, 3), (true, 4), (true, 5), (true, 6), (true, 7), (true, 8), (true, 9), (true, 10), (true, 11), (true, 12), (true, 13), (true, 14), (true, 15), (true, 16)] (by kernel_rfl) ?_
      simp (maxDischargeDepth := 30) only [AMS, AMH, ↓reduceIte, Nat.reduceLT, Nat.reduceEqDiff, Nat.reduceAdd, Nat.reduceMul, reduceCtorEq, decide_true, decide_false, Nat.reduceLeDiff, Int.reduceNe, Int.reduceEq, ne_eq, not_false_eq_true, and_self, ix_137, ld_139, part_139, size_137, size_139, und_137, zero_137, zero_139, k', g0, g1, g2, g3, g8, g9, z, wj, hjl, hjl', rb, ep, eq', V_func]
      refine W_callP (more_122 p.2 q.2 p.1 q.1 pb qb k') ?_
      rintro _ h3 ⟨rfl, fr3⟩
      have k3 := kp.fr fr3
      have gb3 := fr3.get' k' gb
      have rb3 := fr3.row' k' rb
      cases hlt : decide (q.1 - p.1 < 0) with
      | false =>
        have hlt' := of_decide_eq_false hlt
        have hst : sink (j + 1) N = N := by
          unfold sink
          rw [key_at gp, key_at gq, if_neg (by omega)]
        simp (maxDischargeDepth := 30) only [AMS, AMH, ↓reduceIte, Nat.reduceLT, Nat.reduceEqDiff, Nat.reduceAdd, Nat.reduceMul, reduceCtorEq, decide_true, decide_false, Nat.reduceLeDiff, Int.reduceNe, Int.reduceEq, ne_eq, not_false_eq_true, and_self, AMR, ix_137, ld_139, part_139, size_137, size_139, und_137, zero_137, zero_139, k3.ok, g0, g1, g2, g3, g8, g9, z, wj, hjl, hjl', rb3, ep, eq', kc1, kc2, hlt, wi]
        refine ih (L.length - (i + 1)) _ _ (by omega) ?_
        exact ⟨i + 1, N, by omega, by omega, rfl, hN, hNB, by simp [upd_at, g0], by simp [upd_at, g1], by simp [upd_at, g2], by simp [upd_at, g3], by simp [upd_at], hfin (by rw [← hsk, hst]), gb3, k3⟩
      | true =>
        have hlt' := of_decide_eq_true hlt
        have hst : sink (j + 1) N = sink j ((N.set (j + 1) q).set j p) := by
          rw [← swap_at gp gq]
          conv => lhs; unfold sink
          rw [key_at gp, key_at gq, if_pos (by omega)]
        have w1 : write? (N.flatMap restC) ((j + 1) * 2) [.int .i64 q.2, .int .i64 q.1] = some ((N.set (j + 1) q).flatMap restC) := write_put restC_len (by omega) q (by omega)
        have w2 : write? ((N.set (j + 1) q).flatMap restC) (j * 2) [.int .i64 p.2, .int .i64 p.1] = some (((N.set (j + 1) q).set j p).flatMap restC) := write_put restC_len (by omega) p (by rw [List.length_set]; omega)
        have gb4 : (h3.set b (.row ((N.set (j + 1) q).flatMap restC) 2 true)).get b = some (.row ((N.set (j + 1) q).flatMap restC) 2 true) := Heap.get_set_self _ _ _
        have bl3 := get_lt k3.ok gb3
        simp (maxDischargeDepth := 30) only [AMS, AMH, ↓reduceIte, Nat.reduceLT, Nat.reduceEqDiff, Nat.reduceAdd, Nat.reduceMul, reduceCtorEq, decide_true, decide_false, Nat.reduceLeDiff, Int.reduceNe, Int.reduceEq, ne_eq, not_false_eq_true, and_self, AMR, ix_137, ld_139, part_139, size_137, size_139, und_137, zero_137, zero_139, k3.ok, g0, g1, g2, g3, g8, g9, z, wj, hjl, hjl', rb3, ep, eq', kc1, kc2, hlt]
        refine W_draw [(true, 0), (true, 1), (true, 2), (true, 3), (true, 4), (true, 5), (true, 6), (true, 7), (true, 8), (true, 9), (true, 10), (true, 11), (true, 12), (true, 13), (true, 14), (true, 15), (true, 16), (true, 17)] (by kernel_rfl) ?_
        simp (maxDischargeDepth := 30) only [AMS, AMH, ↓reduceIte, Nat.reduceLT, Nat.reduceEqDiff, Nat.reduceAdd, Nat.reduceMul, reduceCtorEq, decide_true, decide_false, Nat.reduceLeDiff, Int.reduceNe, Int.reduceEq, ne_eq, not_false_eq_true, and_self, AMR, ix_137, ld_139, part_139, size_137, size_139, und_137, zero_137, zero_139, k3.ok, g0, g1, g2, g3, g8, g9, z, wj, hjl, hjl', rb3, ep, eq', gb3, w1, gb4, w2]
        refine ih2 j _ _ (by omega) ?_
        exact ⟨_, by omega, by rw [List.length_set, List.length_set]; exact hN, hNB.swap gp gq, by simp [upd_at, g0], by simp [upd_at, g1], by simp [upd_at, g2], by simp [upd_at, g3], by simp [upd_at, g8], by simp [upd_at], by rw [← hst]; exact hsk, Heap.get_set_self _ _ _, (k3.set bl3 _).set (by rw [Heap.next_set]; exact bl3) _⟩
  · have : i = L.length := by omega
    subst this
    have e0 : L.length - L.length = 0 := by omega
    rw [e0] at hs
    have hs : M = sortFrom (L.length - 1) 1 L := hs
    simp (maxDischargeDepth := 30) only [AMS, AMH, ↓reduceIte, Nat.reduceLT, Nat.reduceEqDiff, Nat.reduceAdd, Nat.reduceMul, reduceCtorEq, decide_true, decide_false, Nat.reduceLeDiff, Int.reduceNe, Int.reduceEq, ne_eq, not_false_eq_true, and_self, ix_137, ld_139, part_139, size_137, size_139, und_137, zero_137, zero_139, k', g8, g2, lt_f, Post_fin]
    rw [← hs]
    exact ⟨gb, kp⟩

set_option maxRecDepth 10000 in
set_option maxHeartbeats 1000000 in
theorem stable_143 {h : Heap} (hk : HOK h) {b c : Nat} {sp : Option Nat} {L : List (Int × Nat)} (g : h.get b = some (.row (L.flatMap restC) 2 true)) (hB : InB L) (h1 : 1 ≤ L.length) (hn : L.length ≤ 10) :
    CW CC 143 [.slice (some ⟨b, 0, sp⟩) L.length c, .int .i64 L.length, .func (.func 122) #[] #[]] h fun _ h' => h'.get b = some (.row ((sortFrom (L.length - 1) 1 L).flatMap restC) 2 true) ∧ Kp b h h' := by
  refine CW_in Tryz.f143 (by kernel_rfl) (by kernel_rfl) rfl rfl ?_
  simp only [Tryz.f143]
  have d1 : decide ((20 : Int) ≤ (L.length : Int)) = false := by simp; omega
  have d2 : decide ((20 : Int) < (L.length : Int)) = false := by simp; omega
  simp (maxDischargeDepth := 30) only [AMS, AMH, ↓reduceIte, Nat.reduceLT, Nat.reduceEqDiff, Nat.reduceAdd, Nat.reduceMul, reduceCtorEq, decide_true, decide_false, Nat.reduceLeDiff, Int.reduceNe, Int.reduceEq, ne_eq, not_false_eq_true, and_self, L_nil, hk]
  rw [L_inLoop]
  simp (maxDischargeDepth := 30) only [AMS, AMH, ↓reduceIte, Nat.reduceLT, Nat.reduceEqDiff, Nat.reduceAdd, Nat.reduceMul, reduceCtorEq, decide_true, decide_false, Nat.reduceLeDiff, Int.reduceNe, Int.reduceEq, ne_eq, not_false_eq_true, and_self, L_nil, hk, d1]
  refine W_call (insertion_157 hk g hB h1 (by omega)) ?_
  rintro _ h3 ⟨g3, k3⟩
  simp (maxDischargeDepth := 30) only [AMS, AMH, ↓reduceIte, Nat.reduceLT, Nat.reduceEqDiff, Nat.reduceAdd, Nat.reduceMul, reduceCtorEq, decide_true, decide_false, Nat.reduceLeDiff, Int.reduceNe, Int.reduceEq, ne_eq, not_false_eq_true, and_self, L_nil, k3.ok]
  rw [L_inLoop]
  simp (maxDischargeDepth := 30) only [AMS, AMH, ↓reduceIte, Nat.reduceLT, Nat.reduceEqDiff, Nat.reduceAdd, Nat.reduceMul, reduceCtorEq, decide_true, decide_false, Nat.reduceLeDiff, Int.reduceNe, Int.reduceEq, ne_eq, not_false_eq_true, and_self, L_nil, k3.ok, d2, Post_fin]
  exact ⟨g3, k3⟩

theorem sort_121 {h : Heap} (hk : HOK h) {b c : Nat} {sp : Option Nat} {L : List (Int × Nat)} (g : h.get b = some (.row (L.flatMap restC) 2 true)) (hB : InB L) (h1 : 1 ≤ L.length) (hn : L.length ≤ 10) :
    CW CC 121 [.slice (some ⟨b, 0, sp⟩) L.length c, .func (.func 122) #[] #[]] h fun _ h' => h'.get b = some (.row ((sortFrom (L.length - 1) 1 L).flatMap restC) 2 true) ∧ Kp b h h' := by
  refine CW_in Tryz.f121 (by kernel_rfl) (by kernel_rfl) rfl rfl ?_
  simp only [Tryz.f121]
  simp (maxDischargeDepth := 30) only [AMS, AMH, ↓reduceIte, Nat.reduceLT, Nat.reduceEqDiff, Nat.reduceAdd, Nat.reduceMul, reduceCtorEq, decide_true, decide_false, Nat.reduceLeDiff, Int.reduceNe, Int.reduceEq, ne_eq, not_false_eq_true, and_self, len_137, hk]
  refine W_call (stable_143 hk g hB h1 hn) ?_
  rintro _ h3 ⟨g3, k3⟩
  simp (maxDischargeDepth := 30) only [AMS, AMH, ↓reduceIte, Nat.reduceLT, Nat.reduceEqDiff, Nat.reduceAdd, Nat.reduceMul, reduceCtorEq, decide_true, decide_false, Nat.reduceLeDiff, Int.reduceNe, Int.reduceEq, ne_eq, not_false_eq_true, and_self, len_137, k3.ok, Post_fin]
  exact ⟨g3, k3⟩
end Go.Am
