/- Parts 122 of the abstract machine over this program, joined: what each part says stands at its head. -/
import Derived.Test.YtfnkjclplfhjcaaGreatDoorJ121
set_option linter.unusedSimpArgs false
set_option linter.unusedVariables false
/- The abstract machine, part 122: contracts: When. -/
namespace Go.Am
open Go Go.Proofs

set_option maxRecDepth 10000 in
set_option maxHeartbeats 1000000 in
theorem when_39_bad {h : Heap} (hk : HOK h) {a b c : Value} {s : Sheet} (one other : Int) (hs : IsSheet h a b c s) (hn : s.tars.length ≤ 100) (bad : twoB s one other = false) :
    CW CC 39 [.agg ⟨[a, b, c]⟩, .int .i64 one, .int .i64 other] h fun r h' => r = .tuple ⟨[.slice none 0 0, .int .i64 2]⟩ ∧ Fr h h' := by
  obtain ⟨p1, c1, rfl, _⟩ := hs.offs.open
  obtain ⟨p2, c2, rfl, _⟩ := hs.boards.open
  obtain ⟨p3, c3, rfl, _⟩ := hs.tars.open
  refine CW_in Tryz.f39 (by kernel_rfl) (by kernel_rfl) rfl rfl ?_
  simp only [Tryz.f39]
  have f1 : Fr h (((((h.alloc (.row [.slice p1 s.offs.length c1, .slice p2 s.boards.length c2, .slice p3 s.tars.length c3] 0 true)).alloc (.row [.int .i64 one] 0 true)).alloc (.row [.int .i64 other] 0 true)).alloc (.row [.slice none 0 0] 0 true)).alloc (.row [.int .i64 0] 0 true)) := (((((Fr.refl hk).alloc _).alloc _).alloc _).alloc _).alloc _
  have x1 : (((((h.alloc (.row [.slice p1 s.offs.length c1, .slice p2 s.boards.length c2, .slice p3 s.tars.length c3] 0 true)).alloc (.row [.int .i64 one] 0 true)).alloc (.row [.int .i64 other] 0 true)).alloc (.row [.slice none 0 0] 0 true)).alloc (.row [.int .i64 0] 0 true)).get (h.next + 1 + 1 + 1) = some (.row [.slice none 0 0] 0 true) := by rw [get_old _ (by simp)]; exact get_at _ (by simp)
  have y1 : (((((h.alloc (.row [.slice p1 s.offs.length c1, .slice p2 s.boards.length c2, .slice p3 s.tars.length c3] 0 true)).alloc (.row [.int .i64 one] 0 true)).alloc (.row [.int .i64 other] 0 true)).alloc (.row [.slice none 0 0] 0 true)).alloc (.row [.int .i64 0] 0 true)).get (h.next + 1 + 1 + 1 + 1) = some (.row [.int .i64 0] 0 true) := get_at _ (by simp)
  have n1 : (((((h.alloc (.row [.slice p1 s.offs.length c1, .slice p2 s.boards.length c2, .slice p3 s.tars.length c3] 0 true)).alloc (.row [.int .i64 one] 0 true)).alloc (.row [.int .i64 other] 0 true)).alloc (.row [.slice none 0 0] 0 true)).alloc (.row [.int .i64 0] 0 true)).next = h.next + 5 := by simp
  obtain ⟨_, h2, e2, rfl, fr2⟩ := areTwo_80 f1.ok (hs.fr hk f1) one other hn
  have f2 := f1.trans fr2
  have x2 := fr2.get' f1.ok x1
  have y2 := fr2.get' f1.ok y1
  have n2 := fr2.next
  have y3 : (h2.set (h.next + 1 + 1 + 1) (.row [.slice none 0 0] 0 true)).get (h.next + 1 + 1 + 1 + 1) = some (.row [.int .i64 0] 0 true) := by rw [Heap.get_set_ne _ _ (by omega)]; exact y2
  rw [bad] at e2
  simp (maxDischargeDepth := 30) only [AMS, AMH, ↓reduceIte, Nat.reduceLT, Nat.reduceEqDiff, Nat.reduceAdd, Nat.reduceMul, reduceCtorEq, decide_true, decide_false, Nat.reduceLeDiff, Int.reduceNe, Int.reduceEq, ne_eq, not_false_eq_true, and_self, ix_22, ld_22, ld_26, ld_3, ld_31, part_3, size_22, size_3, size_31, und_22, und_31, zero_22, zero_31, hk, e2, x2, y3, List.set_cons_zero]
  exact ⟨trivial, (f2.set (by omega) (by omega) _).set (by omega) (by rw [Heap.next_set]; omega) _⟩

/-- between two rounds of the loop of When -/
structure WJ (h : Heap) (dd : Nat) (S0 : List Value) (i j : Nat) (f : List Int → Bool) (R : ALoop) (D : List (List Int)) (h' : Heap) : Prop where
  fr : Fr h h'
  r : rowAt h' h.next = some S0
  u : rowAt h' (h.next + 1) = some [.int .i64 i]
  w : rowAt h' (h.next + 2) = some [.int .i64 j]
  x : h'.get (h.next + 1 + 1 + 1) = some (.row [.slice none 0 0] 0 true)
  y : h'.get (h.next + 1 + 1 + 1 + 1) = some (.row [.int .i64 0] 0 true)
  no : D.any f = false
  d : h'.get dd = some (.deferred true)
  l : h'.get (dd + 1) = some (.loop R)
/-- when the loop of When has been left -/
structure WS (h : Heap) (dd : Nat) (f : List Int → Bool) (R : ALoop) (D0 : List (List Int)) (q : List Int) (v : Value) (h' : Heap) : Prop where
  fr : Fr h h'
  x : h'.get (h.next + 1 + 1 + 1) = some (.row [v] 0 true)
  y : h'.get (h.next + 1 + 1 + 1 + 1) = some (.row [.int .i64 0] 0 true)
  no : D0.any f = false
  yes : f q = true
  ls : LS h' v q ints 1
  d : h'.get dd = some (.deferred true)
  l : h'.get (dd + 1) = some (.loop (R.turn .done (some .ret)))

set_option maxRecDepth 10000 in
set_option maxHeartbeats 4000000 in
theorem when_39 {h : Heap} (hk : HOK h) (hp : 0 < h.next) {a b c : Value} {s : Sheet} {i j : Nat} {T U : Tar} (hs : IsSheet h a b c s) (good : twoB s i j = true) (hT : s.tars[i]? = some T) (hU : s.tars[j]? = some U) :
    CW CC 39 [.agg ⟨[a, b, c]⟩, .int .i64 i, .int .i64 j] h fun r h' => (((allN s.boards s.boards.length).any (eqB s T U) = false ∧ r = .tuple ⟨[.slice none 0 0, .int .i64 5]⟩) ∨
      ∃ l0 q l2 v, allN s.boards s.boards.length = l0 ++ q :: l2 ∧ l0.any (eqB s T U) = false ∧ eqB s T U q = true ∧ r = .tuple ⟨[v, .int .i64 0]⟩ ∧ LS h' v q ints 1) ∧ Fr h h' := by
  obtain ⟨ok, _⟩ := twoB_at good
  have hlen := Sheet.ok_len ok
  obtain ⟨p1, c1, rfl, _⟩ := hs.offs.open
  obtain ⟨p2, c2, rfl, _⟩ := hs.boards.open
  obtain ⟨p3, c3, rfl, _⟩ := hs.tars.open
  refine CWo_in Tryz.f39 (by kernel_rfl) (by kernel_rfl) rfl rfl ?_
  simp only [Tryz.f39]
  have f1 : Fr h (((((h.alloc (.row [.slice p1 s.offs.length c1, .slice p2 s.boards.length c2, .slice p3 s.tars.length c3] 0 true)).alloc (.row [.int .i64 i] 0 true)).alloc (.row [.int .i64 j] 0 true)).alloc (.row [.slice none 0 0] 0 true)).alloc (.row [.int .i64 0] 0 true)) := (((((Fr.refl hk).alloc _).alloc _).alloc _).alloc _).alloc _
  have x1 : (((((h.alloc (.row [.slice p1 s.offs.length c1, .slice p2 s.boards.length c2, .slice p3 s.tars.length c3] 0 true)).alloc (.row [.int .i64 i] 0 true)).alloc (.row [.int .i64 j] 0 true)).alloc (.row [.slice none 0 0] 0 true)).alloc (.row [.int .i64 0] 0 true)).get (h.next + 1 + 1 + 1) = some (.row [.slice none 0 0] 0 true) := by rw [get_old _ (by simp)]; exact get_at _ (by simp)
  have y1 : (((((h.alloc (.row [.slice p1 s.offs.length c1, .slice p2 s.boards.length c2, .slice p3 s.tars.length c3] 0 true)).alloc (.row [.int .i64 i] 0 true)).alloc (.row [.int .i64 j] 0 true)).alloc (.row [.slice none 0 0] 0 true)).alloc (.row [.int .i64 0] 0 true)).get (h.next + 1 + 1 + 1 + 1) = some (.row [.int .i64 0] 0 true) := get_at _ (by simp)
  have n1 : (((((h.alloc (.row [.slice p1 s.offs.length c1, .slice p2 s.boards.length c2, .slice p3 s.tars.length c3] 0 true)).alloc (.row [.int .i64 i] 0 true)).alloc (.row [.int .i64 j] 0 true)).alloc (.row [.slice none 0 0] 0 true)).alloc (.row [.int .i64 0] 0 true)).next = h.next + 5 := by simp
  have r1 : rowAt (((((h.alloc (.row [.slice p1 s.offs.length c1, .slice p2 s.boards.length c2, .slice p3 s.tars.length c3] 0 true)).alloc (.row [.int .i64 i] 0 true)).alloc (.row [.int .i64 j] 0 true)).alloc (.row [.slice none 0 0] 0 true)).alloc (.row [.int .i64 0] 0 true)) h.next = some [.slice p1 s.offs.length c1, .slice p2 s.boards.length c2, .slice p3 s.tars.length c3] := by rw [rowAt_old _ (by simp; omega), rowAt_old _ (by simp; omega), rowAt_old _ (by simp; omega), rowAt_old _ (by simp), rowAt_new]
  have u1 : rowAt (((((h.alloc (.row [.slice p1 s.offs.length c1, .slice p2 s.boards.length c2, .slice p3 s.tars.length c3] 0 true)).alloc (.row [.int .i64 i] 0 true)).alloc (.row [.int .i64 j] 0 true)).alloc (.row [.slice none 0 0] 0 true)).alloc (.row [.int .i64 0] 0 true)) (h.next + 1) = some [.int .i64 i] := by rw [rowAt_old _ (by simp), rowAt_old _ (by simp), rowAt_old _ (by simp), rowAt_at _ _ _ (by simp)]
  have w1 : rowAt (((((h.alloc (.row [.slice p1 s.offs.length c1, .slice p2 s.boards.length c2, .slice p3 s.tars.length c3] 0 true)).alloc (.row [.int .i64 i] 0 true)).alloc (.row [.int .i64 j] 0 true)).alloc (.row [.slice none 0 0] 0 true)).alloc (.row [.int .i64 0] 0 true)) (h.next + 2) = some [.int .i64 j] := by rw [rowAt_old _ (by simp), rowAt_old _ (by simp), rowAt_at _ _ _ (by simp)]
  obtain ⟨_, h2, e2, rfl, fr2⟩ := areTwo_80 f1.ok (hs.fr hk f1) (i : Int) (j : Int) (by omega)
  have f2 := f1.trans fr2
  rw [good] at e2
  have r2 := fr2.row' f1.ok r1
  have u2 := fr2.row' f1.ok u1
  have w2 := fr2.row' f1.ok w1
  have x2 := fr2.get' f1.ok x1
  have y2 := fr2.get' f1.ok y1
  have n2 := fr2.next
  simp (maxDischargeDepth := 30) only [AMS, AMH, ↓reduceIte, Nat.reduceLT, Nat.reduceEqDiff, Nat.reduceAdd, Nat.reduceMul, reduceCtorEq, decide_true, decide_false, Nat.reduceLeDiff, Int.reduceNe, Int.reduceEq, ne_eq, not_false_eq_true, and_self, ix_22, ld_22, ld_26, ld_3, ld_31, part_3, size_22, size_3, size_31, und_22, und_31, zero_22, zero_31, hk, e2, f2.ok, r2]
  clear f1 r1 u1 w1 x1 y1
  refine W_call (all_81 f2.ok p1 p2 p3 _ _ _ _ _ _) ?_
  rintro _ hA ⟨rfl, frA, rA⟩
  have fA := f2.trans frA
  have nA := frA.next
  have lA := row_lt fA.ok rA
  simp (maxDischargeDepth := 30) only [AMS, AMH, ↓reduceIte, Nat.reduceLT, Nat.reduceEqDiff, Nat.reduceAdd, Nat.reduceMul, reduceCtorEq, decide_true, decide_false, Nat.reduceLeDiff, Int.reduceNe, Int.reduceEq, ne_eq, not_false_eq_true, and_self, ix_22, ld_22, ld_26, ld_3, ld_31, part_3, size_22, size_3, size_31, und_22, und_31, zero_22, zero_31, fA.ok, L_range]
  have uA := frA.row' f2.ok u2
  have wA := frA.row' f2.ok w2
  have rA1 := frA.row' f2.ok r2
  have xA := frA.get' f2.ok x2
  have yA := frA.get' f2.ok y2
  generalize hf : eqB s T U = f
  refine W_range' (P := fun R _ h' => WJ h hA.next [.slice p1 s.offs.length c1, .slice p2 s.boards.length c2, .slice p3 s.tars.length c3] i j f R (allN s.boards s.boards.length) h' ∨ ∃ l1 l2, allN s.boards s.boards.length = l1 ++ l2 ∧ ∃ D0 q v, l1 = D0 ++ [q] ∧ WS h hA.next f R D0 q v h') ?_ ?_
  · intro R hR
    have f4 : Fr hA ((hA.alloc (.deferred true)).alloc (.loop R)) := ((Fr.refl fA.ok).alloc _).alloc _
    have d4 : ((hA.alloc (.deferred true)).alloc (.loop R)).get hA.next = some (.deferred true) := by rw [get_old _ (by simp)]; exact get_at _ rfl
    have l4 : ((hA.alloc (.deferred true)).alloc (.loop R)).get (hA.next + 1) = some (.loop R) := get_at _ (by simp)
    have n4 : ((hA.alloc (.deferred true)).alloc (.loop R)).next = hA.next + 2 := by simp
    have G : Gen (fun x => x = (h.next + 1 + 1 + 1) ∨ x = (h.next + 1 + 1 + 1 + 1) ∨ x = hA.next + 1) (WJ h hA.next [.slice p1 s.offs.length c1, .slice p2 s.boards.length c2, .slice p3 s.tars.length c3] i j f R) (fun D h' => ∃ D0 q v, D = D0 ++ [q] ∧ WS h hA.next f R D0 q v h') (hA.next + 1) h s.boards ((hA.alloc (.deferred true)).alloc (.loop R)).next := by
      refine ⟨fun x hx => by omega, fun x hx => by omega, ?_, ?_⟩
      · rintro D g g' q fr
        have kg := q.fr.ok
        exact ⟨q.fr.trans fr, fr.row' kg q.r, fr.row' kg q.u, fr.row' kg q.w, fr.get' kg q.x, fr.get' kg q.y, q.no, fr.get' kg q.d, fr.get' kg q.l⟩
      · intro D g v q kg hN fg hJ hq hSL
        have hL := SL.ls ints_len hSL
        have rok : isReady R.state = true := by rw [hR]; rfl
        have hA1 : R.assign = _ := congrArg ALoop.assign hR
        have hA2 : R.body = _ := congrArg ALoop.body hR
        have hA3 : R.params = _ := congrArg ALoop.params hR
        have hA4 : R.tmps = _ := congrArg ALoop.tmps hR
        have hR1 : (R.turn .busy R.pending).turn (stateBehind none) none = R := by rw [hR]; rfl
        simp only [loopRec] at hA1 hA2 hA3 hA4
        clear hR
        refine yield_of hJ.l (by rw [hA3]; rfl) ?_
        rw [hA1, hA2, hA3, hA4, setAll_one]
        have lg := get_lt kg hJ.l
        have gX : Gr (fun x => x = (h.next + 1 + 1 + 1) ∨ x = (h.next + 1 + 1 + 1 + 1) ∨ x = hA.next + 1) g (g.set (hA.next + 1) (.loop (R.turn .busy R.pending))) := ⟨kg.set lg _, by simp, fun x hx hn => by rw [Heap.get_set_ne _ _ (by omega)]⟩
        have fB : Fr h (g.set (hA.next + 1) (.loop (R.turn .busy R.pending))) := gX.fr hJ.fr fun x hx => by omega
        have kB := fB.ok
        have rB := gX.row' kg (by omega) hJ.r
        have uB := gX.row' kg (by omega) hJ.u
        have wB := gX.row' kg (by omega) hJ.w
        have xB : (g.set (hA.next + 1) (.loop (R.turn .busy R.pending))).get (h.next + 1 + 1 + 1) = some (.row [.slice none 0 0] 0 true) := by rw [Heap.get_set_ne _ _ (by omega)]; exact hJ.x
        have yB : (g.set (hA.next + 1) (.loop (R.turn .busy R.pending))).get (h.next + 1 + 1 + 1 + 1) = some (.row [.int .i64 0] 0 true) := by rw [Heap.get_set_ne _ _ (by omega)]; exact hJ.y
        have dB : (g.set (hA.next + 1) (.loop (R.turn .busy R.pending))).get hA.next = some (.deferred true) := by rw [Heap.get_set_ne _ _ (by omega)]; exact hJ.d
        have lB : (g.set (hA.next + 1) (.loop (R.turn .busy R.pending))).get (hA.next + 1) = some (.loop (R.turn .busy R.pending)) := get_set_self' _ _ _
        have hLB : LS (g.set (hA.next + 1) (.loop (R.turn .busy R.pending))) v q ints 1 := hL.rk ⟨kB, by simp, fun x l s o hx => by
          rw [Heap.get_set_ne _ _ (by rintro rfl; rw [hJ.l] at hx; simp at hx)]; exact hx⟩
        simp (maxDischargeDepth := 30) only [AMS, AMH, ↓reduceIte, Nat.reduceLT, Nat.reduceEqDiff, Nat.reduceAdd, Nat.reduceMul, reduceCtorEq, decide_true, decide_false, Nat.reduceLeDiff, Int.reduceNe, Int.reduceEq, ne_eq, not_false_eq_true, and_self, ix_22, ld_22, ld_26, ld_3, ld_31, part_3, size_22, size_3, size_31, und_22, und_31, zero_22, zero_31, kg, L_begin hJ.l rok]
        generalize (g.set (hA.next + 1) (.loop (R.turn .busy R.pending))) = hB at gX fB kB rB uB wB xB yB dB lB hLB ⊢
        simp (maxDischargeDepth := 30) only [AMS, AMH, ↓reduceIte, Nat.reduceLT, Nat.reduceEqDiff, Nat.reduceAdd, Nat.reduceMul, reduceCtorEq, decide_true, decide_false, Nat.reduceLeDiff, Int.reduceNe, Int.reduceEq, ne_eq, not_false_eq_true, and_self, ix_22, ld_22, ld_26, ld_3, ld_31, part_3, size_22, size_3, size_31, und_22, und_31, zero_22, zero_31, kB, rB, uB, wB]
        refine W_call (same_82 kB (by have := fB.next; omega) (hs.fr hk fB) hLB ok (allN_ok.2 hq) hT hU) ?_
        rintro _ hC ⟨rfl, frC⟩
        rw [hf]
        have fC := fB.trans frC
        have rC := frC.row' kB rB
        have uC := frC.row' kB uB
        have wC := frC.row' kB wB
        have xC := frC.get' kB xB
        have yC := frC.get' kB yB
        have dC := frC.get' kB dB
        have lC := frC.get' kB lB
        have hLC := hLB.fr kB frC
        have mC := get_lt fC.ok lC
        have no := hJ.no
        cases hfq : f q with
        | true =>
          have y3 : (hC.set (h.next + 1 + 1 + 1) (.row [v] 0 true)).get (h.next + 1 + 1 + 1 + 1) = some (.row [.int .i64 0] 0 true) := by rw [Heap.get_set_ne _ _ (by omega)]; exact yC
          obtain ⟨pv, cv, rfl⟩ := hL.len
          simp (maxDischargeDepth := 30) only [AMS, AMH, ↓reduceIte, Nat.reduceLT, Nat.reduceEqDiff, Nat.reduceAdd, Nat.reduceMul, reduceCtorEq, decide_true, decide_false, Nat.reduceLeDiff, Int.reduceNe, Int.reduceEq, ne_eq, not_false_eq_true, and_self, ix_22, ld_22, ld_26, ld_3, ld_31, part_3, size_22, size_3, size_31, und_22, und_31, zero_22, zero_31, fC.ok, xC, y3, List.set_cons_zero]
          have nD : ((hC.set (h.next + 1 + 1 + 1) (.row [.slice pv q.length cv] 0 true)).set (h.next + 1 + 1 + 1 + 1) (.row [.int .i64 0] 0 true)).next = hC.next := by rw [Heap.next_set, Heap.next_set]
          have fE : Fr h ((((hC.set (h.next + 1 + 1 + 1) (.row [.slice pv q.length cv] 0 true)).set (h.next + 1 + 1 + 1 + 1) (.row [.int .i64 0] 0 true))).set (hA.next + 1) (.loop ((R.turn .busy R.pending).turn (stateBehind (some .ret)) (some .ret)))) := ((fC.set (by omega) (by omega) _).set (by omega) (by rw [Heap.next_set]; omega) _).set (by omega) (by rw [nD]; omega) _
          have gE : Gr (fun x => x = (h.next + 1 + 1 + 1) ∨ x = (h.next + 1 + 1 + 1 + 1) ∨ x = hA.next + 1) g ((((hC.set (h.next + 1 + 1 + 1) (.row [.slice pv q.length cv] 0 true)).set (h.next + 1 + 1 + 1 + 1) (.row [.int .i64 0] 0 true))).set (hA.next + 1) (.loop ((R.turn .busy R.pending).turn (stateBehind (some .ret)) (some .ret)))) := (((gX.trans frC.gr).set (by omega) (by omega) _).set (by omega) (by rw [Heap.next_set]; omega) _).set (by omega) (by rw [nD]; omega) _
          have sE := hSL.gr kg gE fun x hx => by omega
          refine ⟨some .ret, _, rfl, trivial, by rw [Heap.get_set_ne _ _ (by omega), Heap.get_set_ne _ _ (by omega)]; exact lC, gE, .inr ⟨rfl, D, q, _, rfl, fE, ?_, ?_, no, hfq, SL.ls ints_len sE, ?_, get_set_self' _ _ _⟩⟩
          · rw [Heap.get_set_ne _ _ (by omega), Heap.get_set_ne _ _ (by omega)]; exact get_set_self' _ _ _
          · rw [Heap.get_set_ne _ _ (by omega)]; exact get_set_self' _ _ _
          · rw [Heap.get_set_ne _ _ (by omega), Heap.get_set_ne _ _ (by omega), Heap.get_set_ne _ _ (by omega)]; exact dC
        | false =>
          simp (maxDischargeDepth := 30) only [AMS, AMH, ↓reduceIte, Nat.reduceLT, Nat.reduceEqDiff, Nat.reduceAdd, Nat.reduceMul, reduceCtorEq, decide_true, decide_false, Nat.reduceLeDiff, Int.reduceNe, Int.reduceEq, ne_eq, not_false_eq_true, and_self, ix_22, ld_22, ld_26, ld_3, ld_31, part_3, size_22, size_3, size_31, und_22, und_31, zero_22, zero_31, fC.ok, L_nil]
          have fE : Fr h (hC.set (hA.next + 1) (.loop ((R.turn .busy R.pending).turn (stateBehind none) none))) := fC.set (by omega) (by omega) _
          have gE : Gr (fun x => x = (h.next + 1 + 1 + 1) ∨ x = (h.next + 1 + 1 + 1 + 1) ∨ x = hA.next + 1) g (hC.set (hA.next + 1) (.loop ((R.turn .busy R.pending).turn (stateBehind none) none))) := (gX.trans frC.gr).set (by omega) (by omega) _
          have oE : ∀ x, x ≠ hA.next + 1 → (hC.set (hA.next + 1) (.loop ((R.turn .busy R.pending).turn (stateBehind none) none))).get x = hC.get x := fun x h2 => by rw [Heap.get_set_ne _ _ h2]
          have lE : (hC.set (hA.next + 1) (.loop ((R.turn .busy R.pending).turn (stateBehind none) none))).get (hA.next + 1) = some (.loop ((R.turn .busy R.pending).turn (stateBehind none) none)) := get_set_self' _ _ _
          refine ⟨none, _, rfl, trivial, lC, gE, .inl ⟨rfl, fE, ?_, ?_, ?_, ?_, ?_, ?_, ?_, ?_⟩⟩
          · unfold rowAt; rw [oE _ (by omega)]; exact rC
          · unfold rowAt; rw [oE _ (by omega)]; exact uC
          · unfold rowAt; rw [oE _ (by omega)]; exact wC
          · exact (oE _ (by omega)).trans xC
          · exact (oE _ (by omega)).trans yC
          · rw [List.any_append, no]; simp [hfq]
          · exact (oE _ (by omega)).trans dC
          · exact lE.trans (by rw [hR1])
    obtain ⟨v, h', e, _, hP⟩ := all_108 hk f4.ok (by omega) G hs ok (fA.trans f4) (pS := h2.next) (by omega) (f4.row' fA.ok rA) ⟨fA.trans f4, f4.row' fA.ok rA1, f4.row' fA.ok uA, f4.row' fA.ok wA, f4.get' fA.ok xA, f4.get' fA.ok yA, rfl, d4, l4⟩
    exact ⟨v, h', e, hP⟩
  · rintro R hR _ h' hP
    rw [mark_nil]
    rcases hP with q | ⟨l1, l2, eL, D0, qq, v, rfl, q⟩
    · have hst : R.state = .ready := by rw [hR]; rfl
      have hpe : R.pending = none := by rw [hR]; rfl
      clear hR
      refine ⟨R, q.l, by rw [hst]; rfl, ?_⟩
      rw [hpe]
      generalize R.turn .exhausted none = R2
      have kq := q.fr.ok
      have lq := get_lt kq q.l
      have dq := get_lt kq q.d
      have fE : Fr h (h'.set (hA.next + 1) (.loop R2)) := q.fr.set (by omega) lq _
      have xE : (h'.set (hA.next + 1) (.loop R2)).get (h.next + 1 + 1 + 1) = some (.row [.slice none 0 0] 0 true) := by rw [Heap.get_set_ne _ _ (by omega)]; exact q.x
      have yE : (h'.set (hA.next + 1) (.loop R2)).get (h.next + 1 + 1 + 1 + 1) = some (.row [.int .i64 0] 0 true) := by rw [Heap.get_set_ne _ _ (by omega)]; exact q.y
      have dE : (h'.set (hA.next + 1) (.loop R2)).get hA.next = some (.deferred true) := by rw [Heap.get_set_ne _ _ (by omega)]; exact q.d
      have nE : (h'.set (hA.next + 1) (.loop R2)).next = h'.next := Heap.next_set _ _ _
      generalize (h'.set (hA.next + 1) (.loop R2)) = hE at fE xE yE dE nE ⊢
      have yF : (hE.set (h.next + 1 + 1 + 1) (.row [.slice none 0 0] 0 true)).get (h.next + 1 + 1 + 1 + 1) = some (.row [.int .i64 0] 0 true) := by rw [Heap.get_set_ne _ _ (by omega)]; exact yE
      have no := q.no
      have m3 : (h.next + 1 + 1 + 1) < hA.next := by omega
      have m4 : (h.next + 1 + 1 + 1 + 1) < hA.next := by omega
      have dF : ((hE.set (h.next + 1 + 1 + 1) (.row [.slice none 0 0] 0 true)).set (h.next + 1 + 1 + 1 + 1) (.row [.int .i64 5] 0 true)).get hA.next = some (.deferred true) := by rw [Heap.get_set_ne _ _ (by omega), Heap.get_set_ne _ _ (by omega)]; exact dE
      simp (maxDischargeDepth := 30) only [AMS, AMH, ↓reduceIte, Nat.reduceLT, Nat.reduceEqDiff, Nat.reduceAdd, Nat.reduceMul, reduceCtorEq, decide_true, decide_false, Nat.reduceLeDiff, Int.reduceNe, Int.reduceEq, ne_eq, not_false_eq_true, and_self, ix_22, ld_22, ld_26, ld_3, ld_31, part_3, size_22, size_3, size_31, und_22, und_31, zero_22, zero_31, items_none, fE.ok, xE, yF, List.set_cons_zero, PostO_retD, dF, m3, m4, true_and, List.getElem?_cons_zero]
      exact ⟨.inl ⟨no, trivial⟩, (((fE.set (by omega) (by omega) _).set (by omega) (by rw [Heap.next_set]; omega) _).set (by omega) (by rw [Heap.next_set, Heap.next_set]; omega) _)⟩
    · clear hR
      refine ⟨_, q.l, rfl, ?_⟩
      show W (Lim CC none (itemsOf (some .ret) _) _ _) _
      generalize (R.turn .done (some .ret)).turn .exhausted (R.turn .done (some .ret)).pending = R2
      have kq := q.fr.ok
      have lq := get_lt kq q.l
      have dq := get_lt kq q.d
      have fE : Fr h (h'.set (hA.next + 1) (.loop R2)) := q.fr.set (by omega) lq _
      have xE : (h'.set (hA.next + 1) (.loop R2)).get (h.next + 1 + 1 + 1) = some (.row [v] 0 true) := by rw [Heap.get_set_ne _ _ (by omega)]; exact q.x
      have yE : (h'.set (hA.next + 1) (.loop R2)).get (h.next + 1 + 1 + 1 + 1) = some (.row [.int .i64 0] 0 true) := by rw [Heap.get_set_ne _ _ (by omega)]; exact q.y
      have dE : (h'.set (hA.next + 1) (.loop R2)).get hA.next = some (.deferred true) := by rw [Heap.get_set_ne _ _ (by omega)]; exact q.d
      have lsE : LS (h'.set (hA.next + 1) (.loop R2)) v qq ints 1 := q.ls.rk ⟨fE.ok, by simp, fun x l s o hx => by
        rw [Heap.get_set_ne _ _ (by rintro rfl; rw [q.l] at hx; simp at hx)]; exact hx⟩
      have nE : (h'.set (hA.next + 1) (.loop R2)).next = h'.next := Heap.next_set _ _ _
      generalize (h'.set (hA.next + 1) (.loop R2)) = hE at fE xE yE dE lsE nE ⊢
      obtain ⟨pv, cv, rfl⟩ := lsE.len
      have m3 : (h.next + 1 + 1 + 1) < hA.next := by omega
      have m4 : (h.next + 1 + 1 + 1 + 1) < hA.next := by omega
      have xr : rowAt hE (h.next + 1 + 1 + 1) = some [.slice pv qq.length cv] := by unfold rowAt; rw [xE]; rfl
      have yr : rowAt hE (h.next + 1 + 1 + 1 + 1) = some [.int .i64 0] := by unfold rowAt; rw [yE]; rfl
      have lsF : LS (hE.set hA.next (.deferred false)) (.slice pv qq.length cv) qq ints 1 := lsE.rk ⟨fE.ok.set (by omega) _, by simp, fun x l s o hx => by
        rw [Heap.get_set_ne _ _ (by rintro rfl; rw [dE] at hx; simp at hx)]; exact hx⟩
      simp (maxDischargeDepth := 30) only [AMS, AMH, ↓reduceIte, Nat.reduceLT, Nat.reduceEqDiff, Nat.reduceAdd, Nat.reduceMul, reduceCtorEq, decide_true, decide_false, Nat.reduceLeDiff, Int.reduceNe, Int.reduceEq, ne_eq, not_false_eq_true, and_self, ix_22, ld_22, ld_26, ld_3, ld_31, part_3, size_22, size_3, size_31, und_22, und_31, zero_22, zero_31, items_some, fE.ok, PostO_retD, dE, m3, m4, xr, yr, true_and, List.getElem?_cons_zero]
      exact ⟨.inr ⟨D0, qq, l2, _, by rw [eL]; simp, q.no, q.yes, rfl, lsF⟩, fE.set (by omega) (by omega) _⟩
end Go.Am
