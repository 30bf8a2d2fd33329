/- Parts 107 of the abstract machine over this program, joined: what each part says stands at its head. -/
import Derived.Test.YtfnkjclplfhjcaaGreatDoorJ106
set_option linter.unusedSimpArgs false
set_option linter.unusedVariables false
/- The abstract machine, part 107: contracts: Alone and Loses. -/
namespace Go.Am
open Go Go.Proofs

def losesL (X : List Int) (t : Tar) (bs : List Board) (hs : List Int) : List Int := X.zipIdx.map fun p => p.1 - alone t bs hs p.2
theorem losesL_len (X : List Int) (t : Tar) (bs : List Board) (hs : List Int) : (losesL X t bs hs).length = X.length := by simp [losesL]
theorem losesL_get {X : List Int} {t : Tar} {bs : List Board} {hs : List Int} {i : Nat} {x : Int} (h1 : X[i]? = some x) : (losesL X t bs hs)[i]? = some (x - alone t bs hs i) := by
  unfold losesL
  rw [List.getElem?_map, List.getElem?_zipIdx, h1]
  simp

theorem bill_72x {h : Heap} (hk : HOK h) {a b c v : Value} {s : Sheet} {hs : List Int} (hsh : IsSheet h a b c s) (hv : LS h v hs ints 1) :
    CW CC 72 [.agg ⟨[a, b, c]⟩, v] h fun r h' => ∃ m, Fr h h' ∧ h.next ≤ m ∧ r = .agg ⟨[a, b, c, v, .map (some m)]⟩ ∧ HasMap h' m := by
  obtain ⟨p1, c1, rfl, _⟩ := hsh.offs.open
  obtain ⟨p2, c2, rfl, _⟩ := hsh.boards.open
  obtain ⟨p3, c3, rfl, _⟩ := hsh.tars.open
  obtain ⟨p4, c4, rfl, _⟩ := hv.open
  refine CW_in Tryz.f72 (by kernel_rfl) (by kernel_rfl) rfl rfl ?_
  simp only [Tryz.f72]
  simp (maxDischargeDepth := 30) only [AMS, AMH, ↓reduceIte, Nat.reduceLT, Nat.reduceEqDiff, Nat.reduceAdd, Nat.reduceMul, reduceCtorEq, decide_true, decide_false, Nat.reduceLeDiff, Int.reduceNe, Int.reduceEq, ne_eq, not_false_eq_true, and_self, bld_94, fld_94_0, fld_94_1, fld_94_2, ld_26, ld_94, size_92, size_94, sp_94_0, sp_94_1, sp_94_2, und_92, zero_92, zero_94, hk]
  have f : ∀ x y z w, Fr h ((((h.alloc x).alloc y).alloc z).set (h.next + 1) w) := fun x y z w => ((((Fr.refl hk).alloc x).alloc y).alloc z).set (by omega) (by simp) w
  refine ⟨h.next + 1 + 1, f _ _ _ _, by omega, rfl, [], 0, ?_, fun e he => by simp at he⟩
  rw [Heap.get_set_ne _ _ (by omega)]
  exact get_at _ (by simp)

set_option maxRecDepth 10000 in
set_option maxHeartbeats 4000000 in
theorem loses_53 {h : Heap} (hk : HOK h) (hp : 0 < h.next) {a b c v : Value} {s : Sheet} {l : List Int} {i : Nat} {t : Tar} (hs : IsSheet h a b c s) (hv : LS h v l ints 1) (ok : s.ok = true) (hl : hoursOK s.boards l = true) (ht : s.tars[i]? = some t) :
    CW CC 53 [.agg ⟨[a, b, c]⟩, .int .i64 i, v] h fun r h' => ∃ x, r = .tuple ⟨[x, .int .i64 0]⟩ ∧ LS h' x (losesL (sharesL (paid t s.boards l) (weights s.offs.length t s.boards l)) t s.boards l) ints 1 ∧ Fr h h' := by
  have hlen := Sheet.ok_len ok
  have hil := (List.getElem?_eq_some_iff.1 ht).1
  have hll := (hoursOK_at hl).1
  have htok := Sheet.ok_tars ok t (List.mem_of_getElem? ht)
  have hq := qtys_b ok hl t
  have wb := weights_b (t := t) ok hq hll
  have hP := paid_b htok hll ⟨by omega, by omega⟩ hq
  have sb := sharesL_b hP wb.1 wb.2 (by rw [weights_len]; omega)
  have slen := sharesL_len (P := paid t s.boards l) (W := weights s.offs.length t s.boards l)
  rw [weights_len] at slen
  have hs' := hs
  have hv' := hv
  obtain ⟨p1, c1, rfl, x1⟩ := hs.offs.open
  obtain ⟨p2, c2, rfl, _⟩ := hs.boards.open
  obtain ⟨p3, c3, rfl, x3⟩ := hs.tars.open
  obtain ⟨p4, c4, rfl, _⟩ := hv.open
  obtain ⟨bt, ot, spt, rowt, rfl, rrt, et⟩ := LS.at (n := 0) (c := 0) x3 ht
  refine CW_in Tryz.f53 (by kernel_rfl) (by kernel_rfl) rfl rfl ?_
  simp only [Tryz.f53]
  have f1 : Fr h (h.alloc (.row [.slice p1 s.offs.length c1, .slice p2 s.boards.length c2, .slice (some ⟨bt, ot, spt⟩) s.tars.length c3] 0 true)) := (Fr.refl hk).alloc _
  have r1 : rowAt (h.alloc (.row [.slice p1 s.offs.length c1, .slice p2 s.boards.length c2, .slice (some ⟨bt, ot, spt⟩) s.tars.length c3] 0 true)) h.next = some [.slice p1 s.offs.length c1, .slice p2 s.boards.length c2, .slice (some ⟨bt, ot, spt⟩) s.tars.length c3] := rowAt_new _ _ _ _
  obtain ⟨_, h2, e2, rfl, fr2⟩ := isOne_70 f1.ok (hs.fr hk f1) (i : Int) (by omega)
  have f2 := f1.trans fr2
  have r2 := fr2.row' f1.ok r1
  have hin : (s.ok && inP i 0 (s.tars.length - 1)) = true := by
    rw [ok]; simp [inP]; omega
  rw [hin] at e2
  obtain ⟨_, h3, e4, rfl, fr3⟩ := areHours_74 f2.ok (hs.fr hk f2) (hv.fr hk f2) (by omega) (by omega)
  rw [hl] at e4
  have f3 := f2.trans fr3
  have r3 := fr3.row' f2.ok r2
  have rr3' := f3.row' hk rrt
  have kc : t.cells.all selfC = true := rfl
  have kt : take? t.cells 0 5 = some t.cells := rfl
  have tl : t.cells.length = 5 := rfl
  have ta : allOne t.cells = true := rfl
  simp (maxDischargeDepth := 30) only [AMS, AMH, ↓reduceIte, Nat.reduceLT, Nat.reduceEqDiff, Nat.reduceAdd, Nat.reduceMul, reduceCtorEq, decide_true, decide_false, Nat.reduceLeDiff, Int.reduceNe, Int.reduceEq, ne_eq, not_false_eq_true, and_self, fp_26_2, ix_22, ix_24, ld_24, ld_26, ld_3, ld_41, ld_94, len_22, part_3, part_41, size_22, size_24, size_3, size_41, size_94, und_22, und_24, und_3, zero_22, zero_24, zero_3, zero_41, zero_94, hk, e2, f2.ok, r2, e4]
  have fa : Fr h3 ((h3.alloc (.row [.slice none 0 0, .slice none 0 0, .slice none 0 0, .slice none 0 0, .map none] 0 true)).alloc (.row [.int .i64 0, .int .i64 0, .int .i64 0, .int .i64 0, .bool false] 0 true)) := ((Fr.refl f3.ok).alloc _).alloc _
  have ga : ((h3.alloc (.row [.slice none 0 0, .slice none 0 0, .slice none 0 0, .slice none 0 0, .map none] 0 true)).alloc (.row [.int .i64 0, .int .i64 0, .int .i64 0, .int .i64 0, .bool false] 0 true)).get h3.next = some (.row [.slice none 0 0, .slice none 0 0, .slice none 0 0, .slice none 0 0, .map none] 0 true) := by rw [get_old _ (by simp)]; exact get_at _ rfl
  have gb : ((h3.alloc (.row [.slice none 0 0, .slice none 0 0, .slice none 0 0, .slice none 0 0, .map none] 0 true)).alloc (.row [.int .i64 0, .int .i64 0, .int .i64 0, .int .i64 0, .bool false] 0 true)).get (h3.next + 1) = some (.row [.int .i64 0, .int .i64 0, .int .i64 0, .int .i64 0, .bool false] 0 true) := get_at _ (by simp)
  have nA : ((h3.alloc (.row [.slice none 0 0, .slice none 0 0, .slice none 0 0, .slice none 0 0, .map none] 0 true)).alloc (.row [.int .i64 0, .int .i64 0, .int .i64 0, .int .i64 0, .bool false] 0 true)).next = h3.next + 2 := by simp
  have rA := fa.row' f3.ok r3
  have rtA := fa.row' f3.ok rr3'
  have fA := f3.trans fa
  refine W_draw [(true, 0), (true, 1), (true, 3), (true, 4), (true, 5), (true, 6), (true, 7), (true, 8), (true, 9), (true, 2), (false, 4), (false, 7), (false, 8), (false, 9), (true, 10), (false, 4), (false, 7), (true, 11)] (by kernel_rfl) ?_
  simp (maxDischargeDepth := 30) only [AMS, AMH, ↓reduceIte, Nat.reduceLT, Nat.reduceEqDiff, Nat.reduceAdd, Nat.reduceMul, reduceCtorEq, decide_true, decide_false, Nat.reduceLeDiff, Int.reduceNe, Int.reduceEq, ne_eq, not_false_eq_true, and_self, AMR, fp_26_2, ix_22, ix_24, ld_24, ld_26, ld_3, ld_41, ld_94, len_22, part_3, part_41, size_22, size_24, size_3, size_41, size_94, und_22, und_24, und_3, zero_22, zero_24, zero_3, zero_41, zero_94, f3.ok, r3, hil, rr3', et]
  refine W_callP (bill_72x fA.ok (hs'.fr hk fA) (hv'.fr hk fA)) ?_
  rintro _ h4 ⟨m, fr4, hm4, rfl, hmap⟩
  have f4 := fA.trans fr4
  have r4 := fr4.row' fA.ok rA
  have rt4 := fr4.row' fA.ok rtA
  have ga4 := fr4.get' fA.ok ga
  have gb4 := fr4.get' fA.ok gb
  have n4 := fr4.next
  have f5 : Fr h ((h4.set h3.next (.row [.slice p1 s.offs.length c1, .slice p2 s.boards.length c2, .slice (some ⟨bt, ot, spt⟩) s.tars.length c3, .slice p4 l.length c4, .map (some m)] 0 true)).set (h3.next + 1) (.row t.cells 0 true)) := (f4.set (by have := f3.next; omega) (by omega) _).set (by have := f3.next; omega) (by rw [Heap.next_set]; omega) _
  have b5 : rowAt ((h4.set h3.next (.row [.slice p1 s.offs.length c1, .slice p2 s.boards.length c2, .slice (some ⟨bt, ot, spt⟩) s.tars.length c3, .slice p4 l.length c4, .map (some m)] 0 true)).set (h3.next + 1) (.row t.cells 0 true)) h3.next = some [.slice p1 s.offs.length c1, .slice p2 s.boards.length c2, .slice (some ⟨bt, ot, spt⟩) s.tars.length c3, .slice p4 l.length c4, .map (some m)] := by rw [rowAt_set_lt _ (by omega)]; exact rowAt_set_self _ _ _ _ _
  have t5 : rowAt ((h4.set h3.next (.row [.slice p1 s.offs.length c1, .slice p2 s.boards.length c2, .slice (some ⟨bt, ot, spt⟩) s.tars.length c3, .slice p4 l.length c4, .map (some m)] 0 true)).set (h3.next + 1) (.row t.cells 0 true)) (h3.next + 1) = some t.cells := rowAt_set_self _ _ _ _ _
  have hm5 : HasMap ((h4.set h3.next (.row [.slice p1 s.offs.length c1, .slice p2 s.boards.length c2, .slice (some ⟨bt, ot, spt⟩) s.tars.length c3, .slice p4 l.length c4, .map (some m)] 0 true)).set (h3.next + 1) (.row t.cells 0 true)) m := by
    obtain ⟨es, cc, e, mm⟩ := hmap
    exact ⟨es, cc, by rw [Heap.get_set_ne _ _ (by omega), Heap.get_set_ne _ _ (by omega)]; exact e, mm⟩
  have n5 : ((h4.set h3.next (.row [.slice p1 s.offs.length c1, .slice p2 s.boards.length c2, .slice (some ⟨bt, ot, spt⟩) s.tars.length c3, .slice p4 l.length c4, .map (some m)] 0 true)).set (h3.next + 1) (.row t.cells 0 true)).next = h4.next := by simp
  have gb5 : (h4.set h3.next (.row [.slice p1 s.offs.length c1, .slice p2 s.boards.length c2, .slice (some ⟨bt, ot, spt⟩) s.tars.length c3, .slice p4 l.length c4, .map (some m)] 0 true)).get (h3.next + 1) = some (.row [.int .i64 0, .int .i64 0, .int .i64 0, .int .i64 0, .bool false] 0 true) := by rw [Heap.get_set_ne _ _ (by omega)]; exact gb4
  have hn3 : h.next < h3.next := row_lt f3.ok r3
  have hbt : bt < h.next := row_lt hk rrt
  have r45 : rowAt (h4.set h3.next (.row [.slice p1 s.offs.length c1, .slice p2 s.boards.length c2, .slice (some ⟨bt, ot, spt⟩) s.tars.length c3, .slice p4 l.length c4, .map (some m)] 0 true)) h.next = some [.slice p1 s.offs.length c1, .slice p2 s.boards.length c2, .slice (some ⟨bt, ot, spt⟩) s.tars.length c3] := by rw [rowAt_set_lt _ hn3]; exact r4
  have rt45 : rowAt (h4.set h3.next (.row [.slice p1 s.offs.length c1, .slice p2 s.boards.length c2, .slice (some ⟨bt, ot, spt⟩) s.tars.length c3, .slice p4 l.length c4, .map (some m)] 0 true)) bt = some rowt := by rw [rowAt_set_lt _ (by omega)]; exact rt4
  simp (maxDischargeDepth := 30) only [AMS, AMH, ↓reduceIte, Nat.reduceLT, Nat.reduceEqDiff, Nat.reduceAdd, Nat.reduceMul, reduceCtorEq, decide_true, decide_false, Nat.reduceLeDiff, Int.reduceNe, Int.reduceEq, ne_eq, not_false_eq_true, and_self, AMR, fp_26_2, ix_22, ix_24, ld_24, ld_26, ld_3, ld_41, ld_94, len_22, part_3, part_41, size_22, size_24, size_3, size_41, size_94, und_22, und_24, und_3, zero_22, zero_24, zero_3, zero_41, zero_94, f4.ok, r4, r45, hil, rt4, rt45, et, kc, ga4, gb4, gb5, tl, ta]
  generalize ((h4.set h3.next (.row [.slice p1 s.offs.length c1, .slice p2 s.boards.length c2, .slice (some ⟨bt, ot, spt⟩) s.tars.length c3, .slice p4 l.length c4, .map (some m)] 0 true)).set (h3.next + 1) (.row t.cells 0 true)) = h5 at f5 b5 t5 hm5 n5 ⊢
  have hb5 : IsBill h5 (.agg ⟨[.slice p1 s.offs.length c1, .slice p2 s.boards.length c2, .slice (some ⟨bt, ot, spt⟩) s.tars.length c3, .slice p4 l.length c4, .map (some m)]⟩) s l m := ⟨_, _, _, _, rfl, hs'.fr hk f5, hv'.fr hk f5⟩
  simp (maxDischargeDepth := 30) only [AMS, AMH, ↓reduceIte, Nat.reduceLT, Nat.reduceEqDiff, Nat.reduceAdd, Nat.reduceMul, reduceCtorEq, decide_true, decide_false, Nat.reduceLeDiff, Int.reduceNe, Int.reduceEq, ne_eq, not_false_eq_true, and_self, fp_26_2, ix_22, ix_24, ld_24, ld_26, ld_3, ld_41, ld_94, len_22, part_3, part_41, size_22, size_24, size_3, size_41, size_94, und_22, und_24, und_3, zero_22, zero_24, zero_3, zero_41, zero_94, f5.ok, b5, t5, kt]
  refine W_call (shares_89 (t := t) f5.ok (by omega) hb5 hm5 ok htok hll hq) ?_
  rintro x h6 ⟨q, F6⟩
  have R6 := F6.rk f5.ok hm5
  have f6 : Fr h h6 := F6.fr f5 (by omega)
  have b6 := R6.rowAt b5
  have t6 := R6.rowAt t5
  generalize sharesL (paid t s.boards l) (weights s.offs.length t s.boards l) = X at q slen sb
  have ol := losesL_len X t s.boards l
  rcases q with ⟨_, _, e0⟩ | ⟨bo, rfl, ob0, obN, og, _⟩
  · omega
  have kb : (List.all [.slice p1 s.offs.length c1, .slice p2 s.boards.length c2, .slice (some ⟨bt, ot, spt⟩) s.tars.length c3, .slice p4 l.length c4, .map (some m)] selfC) = true := rfl
  simp (maxDischargeDepth := 30) only [AMS, AMH, ↓reduceIte, Nat.reduceLT, Nat.reduceEqDiff, Nat.reduceAdd, Nat.reduceMul, reduceCtorEq, decide_true, decide_false, Nat.reduceLeDiff, Int.reduceNe, Int.reduceEq, ne_eq, not_false_eq_true, and_self, fp_26_2, ix_22, ix_24, ld_24, ld_26, ld_3, ld_41, ld_94, len_22, part_3, part_41, size_22, size_24, size_3, size_41, size_94, und_22, und_24, und_3, zero_22, zero_24, zero_3, zero_41, zero_94, f6.ok]
  refine W_loop s.offs.length (fun m' f h' => ∃ k, k ≤ s.offs.length ∧ m' = s.offs.length - k ∧ f 8 = .pointer (some ⟨h3.next, 0, none⟩) ∧ f 9 = .pointer (some ⟨h3.next + 1, 0, none⟩) ∧ f 10 = .slice (some ⟨bo, 0, some 1⟩) s.offs.length s.offs.length ∧ f 34 = .int .i64 s.offs.length ∧ f 35 = .int .i64 k ∧
      h'.get bo = some (.row (((losesL X t s.boards l).take k ++ X.drop k).flatMap ints) 1 true) ∧ Fr h h' ∧ rowAt h' h3.next = some [.slice p1 s.offs.length c1, .slice p2 s.boards.length c2, .slice (some ⟨bt, ot, spt⟩) s.tars.length c3, .slice p4 l.length c4, .map (some m)] ∧ rowAt h' (h3.next + 1) = some t.cells)
    ⟨0, by omega, by omega, by simp [upd_at], by simp [upd_at], by simp [upd_at], by simp [upd_at], by simp [upd_at], by simpa using og, f6, b6, t6⟩ ?_
  clear f6 b6 t6 og R6 F6 hb5 hm5 b5 t5 f5
  rintro m' f h' ⟨k, hk', rfl, g8, g9, g10, g34, g35, go, fr, b', t'⟩ ih
  have k' := fr.ok
  by_cases hkl : k < s.offs.length
  · obtain ⟨x, gx⟩ : ∃ x, X[k]? = some x := ⟨_, List.getElem?_eq_getElem (by omega)⟩
    have hx := sb x (List.mem_of_getElem? gx)
    have gm : ((losesL X t s.boards l).take k ++ X.drop k)[k]? = some x := by rw [mid_get' (by omega)]; exact gx
    have gow := losesL_get (t := t) (bs := s.boards) (hs := l) gx
    have ab := alone_b (k := (k : Int)) htok (by omega) hq
    have put := ints_put (y := x - alone t s.boards l k) gm
    rw [mid_set (by omega) gow] at put
    have ya := ints_at gm
    have lo := get_lt k' go
    have hb' : IsBill h' (.agg ⟨[.slice p1 s.offs.length c1, .slice p2 s.boards.length c2, .slice (some ⟨bt, ot, spt⟩) s.tars.length c3, .slice p4 l.length c4, .map (some m)]⟩) s l m := ⟨_, _, _, _, rfl, hs'.fr hk fr, hv'.fr hk fr⟩
    have al := alone_90 (t := t) k' (by have := fr.next; omega) hb' ok htok hll hq (k : Int)
    generalize alone t s.boards l k = A at ab put al
    have w3 : IntKind.i64.wrap (x - A) = x - A := wrap64 (by omega) (by omega)
    have ro : rowAt h' bo = some (((losesL X t s.boards l).take k ++ X.drop k).flatMap ints) := by unfold rowAt; rw [go]; rfl
    simp (maxDischargeDepth := 30) only [AMS, AMH, ↓reduceIte, Nat.reduceLT, Nat.reduceEqDiff, Nat.reduceAdd, Nat.reduceMul, reduceCtorEq, decide_true, decide_false, Nat.reduceLeDiff, Int.reduceNe, Int.reduceEq, ne_eq, not_false_eq_true, and_self, fp_26_2, ix_22, ix_24, ld_24, ld_26, ld_3, ld_41, ld_94, len_22, part_3, part_41, size_22, size_24, size_3, size_41, size_94, und_22, und_24, und_3, zero_22, zero_24, zero_3, zero_41, zero_94, k', g8, g9, g10, g34, g35, lt_t hkl]
    refine W_draw [(true, 0), (true, 1), (true, 2), (true, 3), (true, 4), (true, 5), (true, 6), (true, 7), (false, 3), (true, 8), (true, 9), (true, 10)] (by kernel_rfl) ?_
    simp (maxDischargeDepth := 30) only [AMS, AMH, ↓reduceIte, Nat.reduceLT, Nat.reduceEqDiff, Nat.reduceAdd, Nat.reduceMul, reduceCtorEq, decide_true, decide_false, Nat.reduceLeDiff, Int.reduceNe, Int.reduceEq, ne_eq, not_false_eq_true, and_self, AMR, fp_26_2, ix_22, ix_24, ld_24, ld_26, ld_3, ld_41, ld_94, len_22, part_3, part_41, size_22, size_24, size_3, size_41, size_94, und_22, und_24, und_3, zero_22, zero_24, zero_3, zero_41, zero_94, k', g8, g9, g10, b', t', kt, hkl, Nat.mul_one, ro, ya]
    refine W_callP al ?_
    rintro _ h7 ⟨rfl, fr7⟩
    have f7 := fr.trans fr7
    have b7 := fr7.row' k' b'
    have t7 := fr7.row' k' t'
    have go7 := fr7.get' k' go
    have ro7 := fr7.row' k' ro
    simp (maxDischargeDepth := 30) only [AMS, AMH, ↓reduceIte, Nat.reduceLT, Nat.reduceEqDiff, Nat.reduceAdd, Nat.reduceMul, reduceCtorEq, decide_true, decide_false, Nat.reduceLeDiff, Int.reduceNe, Int.reduceEq, ne_eq, not_false_eq_true, and_self, AMR, fp_26_2, ix_22, ix_24, ld_24, ld_26, ld_3, ld_41, ld_94, len_22, part_3, part_41, size_22, size_24, size_3, size_41, size_94, und_22, und_24, und_3, zero_22, zero_24, zero_3, zero_41, zero_94, f7.ok, g8, g9, g10, g34, g35, b7, t7, kt, kc, kb, hkl, Nat.mul_one, ro7, ya, w3, go7, put, i_next hkl (by omega : s.offs.length ≤ 1000)]
    refine ih (s.offs.length - (k + 1)) _ _ (by omega) ?_
    exact ⟨k + 1, by omega, rfl, by simp [upd_at, g8], by simp [upd_at, g9], by simp [upd_at, g10], by simp [upd_at, g34], by simp [upd_at], Heap.get_set_self _ _ _, f7.set (by omega) (get_lt f7.ok go7) _, by rw [rowAt_set_lt _ (by omega)]; exact b7, by rw [rowAt_set_lt _ (by omega)]; exact t7⟩
  · have : k = s.offs.length := by omega
    subst this
    rw [List.take_of_length_le (by omega), List.drop_of_length_le (by omega), List.append_nil] at go
    simp (maxDischargeDepth := 30) only [AMS, AMH, ↓reduceIte, Nat.reduceLT, Nat.reduceEqDiff, Nat.reduceAdd, Nat.reduceMul, reduceCtorEq, decide_true, decide_false, Nat.reduceLeDiff, Int.reduceNe, Int.reduceEq, ne_eq, not_false_eq_true, and_self, fp_26_2, ix_22, ix_24, ld_24, ld_26, ld_3, ld_41, ld_94, len_22, part_3, part_41, size_22, size_24, size_3, size_41, size_94, und_22, und_24, und_3, zero_22, zero_24, zero_3, zero_41, zero_94, k', g10, g34, g35, lt_f]
    have ro : rowAt h' bo = some ((losesL X t s.boards l).flatMap ints) := by unfold rowAt; rw [go]; rfl
    have := LS.of_row (sp := some 1) (c := s.offs.length) ints_len ro
    rw [ol, slen] at this
    exact ⟨_, rfl, this, fr⟩

end Go.Am
