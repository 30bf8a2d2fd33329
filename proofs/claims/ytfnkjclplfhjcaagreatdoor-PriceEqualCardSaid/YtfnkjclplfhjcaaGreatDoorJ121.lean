/- Parts 121 of the abstract machine over this program, joined: what each part says stands at its head. -/
import Derived.Test.YtfnkjclplfhjcaaGreatDoorJ120
import Derived.Test.YtfnkjclplfhjcaaGreatDoorJ87
set_option linter.unusedSimpArgs false
set_option linter.unusedVariables false
/- The abstract machine, part 121: contracts: Same. -/
namespace Go.Am
open Go Go.Proofs

/-- the word for how many lists there are with which as much is paid -/
def wordOf (L : List (List Int)) (f : List Int → Bool) : Int := if L.any f then (if L.any (fun q => !f q) then 2 else 3) else 1

set_option maxRecDepth 10000 in
set_option maxHeartbeats 1000000 in
theorem same_38_bad {h : Heap} (hk : HOK h) {a b c : Value} {s : Sheet} (one other : Int) (hs : IsSheet h a b c s) (hn : s.tars.length ≤ 100) (bad : twoB s one other = false) :
    CW CC 38 [.agg ⟨[a, b, c]⟩, .int .i64 one, .int .i64 other] h fun r h' => r = .tuple ⟨[.int .i64 0, .int .i64 2]⟩ ∧ Fr h h' := by
  obtain ⟨p1, c1, rfl, _⟩ := hs.offs.open
  obtain ⟨p2, c2, rfl, _⟩ := hs.boards.open
  obtain ⟨p3, c3, rfl, _⟩ := hs.tars.open
  refine CW_in Tryz.f38 (by kernel_rfl) (by kernel_rfl) rfl rfl ?_
  simp only [Tryz.f38]
  have f1 : Fr h (((h.alloc (.row [.slice p1 s.offs.length c1, .slice p2 s.boards.length c2, .slice p3 s.tars.length c3] 0 true)).alloc (.row [.int .i64 one] 0 true)).alloc (.row [.int .i64 other] 0 true)) := (((Fr.refl hk).alloc _).alloc _).alloc _
  have r1 : rowAt (((h.alloc (.row [.slice p1 s.offs.length c1, .slice p2 s.boards.length c2, .slice p3 s.tars.length c3] 0 true)).alloc (.row [.int .i64 one] 0 true)).alloc (.row [.int .i64 other] 0 true)) h.next = some [.slice p1 s.offs.length c1, .slice p2 s.boards.length c2, .slice p3 s.tars.length c3] := by rw [rowAt_old _ (by simp; omega), rowAt_old _ (by simp), rowAt_new]
  have r2 : rowAt (((h.alloc (.row [.slice p1 s.offs.length c1, .slice p2 s.boards.length c2, .slice p3 s.tars.length c3] 0 true)).alloc (.row [.int .i64 one] 0 true)).alloc (.row [.int .i64 other] 0 true)) (h.next + 1) = some [.int .i64 one] := by rw [rowAt_old _ (by simp), rowAt_at _ _ _ (by simp)]
  have r3 : rowAt (((h.alloc (.row [.slice p1 s.offs.length c1, .slice p2 s.boards.length c2, .slice p3 s.tars.length c3] 0 true)).alloc (.row [.int .i64 one] 0 true)).alloc (.row [.int .i64 other] 0 true)) (h.next + 2) = some [.int .i64 other] := rowAt_at _ _ _ (by simp)
  obtain ⟨_, h2, e2, rfl, fr2⟩ := areTwo_80 f1.ok (hs.fr hk f1) one other hn
  have f2 := f1.trans fr2
  rw [bad] at e2
  simp (maxDischargeDepth := 30) only [AMS, AMH, ↓reduceIte, Nat.reduceLT, Nat.reduceEqDiff, Nat.reduceAdd, Nat.reduceMul, reduceCtorEq, decide_true, decide_false, Nat.reduceLeDiff, Int.reduceNe, Int.reduceEq, ne_eq, not_false_eq_true, and_self, ld_26, ld_3, ld_4, size_4, und_4, zero_4, hk, e2]
  exact ⟨trivial, f2⟩

theorem Gr.set {X : Nat → Prop} {h h' : Heap} (q : Gr X h h') {i : Nat} (hx : X i) (hi : i < h'.next) (x : AObj) : Gr X h (h'.set i x) :=
  ⟨q.ok.set hi x, by rw [Heap.next_set]; exact q.next, fun j hj hn => by rw [Heap.get_set_ne _ _ (by rintro rfl; exact hn hx)]; exact q.get j hj hn⟩
/-- between two rounds of the loop of Same -/
structure SJ (h : Heap) (bb dd : Nat) (S0 : List Value) (i j : Nat) (f : List Int → Bool) (R : ALoop) (D : List (List Int)) (h' : Heap) : Prop where
  fr : Fr h h'
  r : rowAt h' h.next = some S0
  u : rowAt h' (h.next + 1) = some [.int .i64 i]
  w : rowAt h' (h.next + 2) = some [.int .i64 j]
  a : h'.get bb = some (.row [.bool (D.any f)] 0 true)
  b : h'.get (bb + 1) = some (.row [.bool (D.any fun q => !f q)] 0 true)
  no : (D.any f && D.any fun q => !f q) = false
  d : h'.get dd = some (.deferred true)
  l : h'.get (dd + 1) = some (.loop R)
/-- when the loop of Same has been left -/
structure SS (h : Heap) (bb dd : Nat) (f : List Int → Bool) (R : ALoop) (D : List (List Int)) (h' : Heap) : Prop where
  fr : Fr h h'
  a : h'.get bb = some (.row [.bool true] 0 true)
  b : h'.get (bb + 1) = some (.row [.bool true] 0 true)
  yes : (D.any f && D.any fun q => !f q) = true
  d : h'.get dd = some (.deferred true)
  l : h'.get (dd + 1) = some (.loop (R.turn .done (some (.exit 0))))

set_option maxRecDepth 10000 in
set_option maxHeartbeats 4000000 in
theorem same_38 {h : Heap} (hk : HOK h) (hp : 0 < h.next) {a b c : Value} {s : Sheet} {i j : Nat} {T U : Tar} (hs : IsSheet h a b c s) (good : twoB s i j = true) (hT : s.tars[i]? = some T) (hU : s.tars[j]? = some U) :
    CW CC 38 [.agg ⟨[a, b, c]⟩, .int .i64 i, .int .i64 j] h fun r h' => r = .tuple ⟨[.int .i64 (wordOf (allN s.boards s.boards.length) (eqB s T U)), .int .i64 0]⟩ ∧ Fr h h' := by
  obtain ⟨ok, _⟩ := twoB_at good
  have hlen := Sheet.ok_len ok
  obtain ⟨p1, c1, rfl, _⟩ := hs.offs.open
  obtain ⟨p2, c2, rfl, _⟩ := hs.boards.open
  obtain ⟨p3, c3, rfl, _⟩ := hs.tars.open
  refine CWo_in Tryz.f38 (by kernel_rfl) (by kernel_rfl) rfl rfl ?_
  simp only [Tryz.f38]
  have f1 : Fr h (((h.alloc (.row [.slice p1 s.offs.length c1, .slice p2 s.boards.length c2, .slice p3 s.tars.length c3] 0 true)).alloc (.row [.int .i64 i] 0 true)).alloc (.row [.int .i64 j] 0 true)) := (((Fr.refl hk).alloc _).alloc _).alloc _
  have r1 : rowAt (((h.alloc (.row [.slice p1 s.offs.length c1, .slice p2 s.boards.length c2, .slice p3 s.tars.length c3] 0 true)).alloc (.row [.int .i64 i] 0 true)).alloc (.row [.int .i64 j] 0 true)) h.next = some [.slice p1 s.offs.length c1, .slice p2 s.boards.length c2, .slice p3 s.tars.length c3] := by rw [rowAt_old _ (by simp; omega), rowAt_old _ (by simp), rowAt_new]
  have u1 : rowAt (((h.alloc (.row [.slice p1 s.offs.length c1, .slice p2 s.boards.length c2, .slice p3 s.tars.length c3] 0 true)).alloc (.row [.int .i64 i] 0 true)).alloc (.row [.int .i64 j] 0 true)) (h.next + 1) = some [.int .i64 i] := by rw [rowAt_old _ (by simp), rowAt_at _ _ _ (by simp)]
  have w1 : rowAt (((h.alloc (.row [.slice p1 s.offs.length c1, .slice p2 s.boards.length c2, .slice p3 s.tars.length c3] 0 true)).alloc (.row [.int .i64 i] 0 true)).alloc (.row [.int .i64 j] 0 true)) (h.next + 2) = some [.int .i64 j] := rowAt_at _ _ _ (by simp)
  obtain ⟨_, h2, e2, rfl, fr2⟩ := areTwo_80 f1.ok (hs.fr hk f1) (i : Int) (j : Int) (by omega)
  have f2 := f1.trans fr2
  rw [good] at e2
  have r2 := fr2.row' f1.ok r1
  have u2 := fr2.row' f1.ok u1
  have w2 := fr2.row' f1.ok w1
  have n2 : h.next + 3 ≤ h2.next := by have := fr2.next; simp at this; omega
  have f3 : Fr h ((((h2.alloc (.row [.bool false] 0 true)).alloc (.row [.bool false] 0 true)).set h2.next (.row [.bool false] 0 true)).set (h2.next + 1) (.row [.bool false] 0 true)) := (((f2.alloc _).alloc _).set (by omega) (by simp; omega) _).set (by omega) (by simp) _
  have fr3 : Fr h2 ((((h2.alloc (.row [.bool false] 0 true)).alloc (.row [.bool false] 0 true)).set h2.next (.row [.bool false] 0 true)).set (h2.next + 1) (.row [.bool false] 0 true)) := ((((Fr.refl f2.ok).alloc _).alloc _).set (by omega) (by simp; omega) _).set (by omega) (by simp) _
  have a3 : ((((h2.alloc (.row [.bool false] 0 true)).alloc (.row [.bool false] 0 true)).set h2.next (.row [.bool false] 0 true)).set (h2.next + 1) (.row [.bool false] 0 true)).get h2.next = some (.row [.bool false] 0 true) := by rw [get_set_lt _ (by omega)]; exact get_set_self' _ _ _
  have b3 : ((((h2.alloc (.row [.bool false] 0 true)).alloc (.row [.bool false] 0 true)).set h2.next (.row [.bool false] 0 true)).set (h2.next + 1) (.row [.bool false] 0 true)).get (h2.next + 1) = some (.row [.bool false] 0 true) := get_set_self' _ _ _
  have n3 : ((((h2.alloc (.row [.bool false] 0 true)).alloc (.row [.bool false] 0 true)).set h2.next (.row [.bool false] 0 true)).set (h2.next + 1) (.row [.bool false] 0 true)).next = h2.next + 2 := by simp
  have r3 := fr3.row' f2.ok r2
  have u3 := fr3.row' f2.ok u2
  have w3 := fr3.row' f2.ok w2
  simp (maxDischargeDepth := 30) only [AMS, AMH, ↓reduceIte, Nat.reduceLT, Nat.reduceEqDiff, Nat.reduceAdd, Nat.reduceMul, reduceCtorEq, decide_true, decide_false, Nat.reduceLeDiff, Int.reduceNe, Int.reduceEq, ne_eq, not_false_eq_true, and_self, ld_26, ld_3, ld_4, size_4, und_4, zero_4, hk, e2, f2.ok, List.set_cons_zero]
  generalize ((((h2.alloc (.row [.bool false] 0 true)).alloc (.row [.bool false] 0 true)).set h2.next (.row [.bool false] 0 true)).set (h2.next + 1) (.row [.bool false] 0 true)) = h3 at f3 fr3 a3 b3 n3 r3 u3 w3 ⊢
  simp (maxDischargeDepth := 30) only [AMS, AMH, ↓reduceIte, Nat.reduceLT, Nat.reduceEqDiff, Nat.reduceAdd, Nat.reduceMul, reduceCtorEq, decide_true, decide_false, Nat.reduceLeDiff, Int.reduceNe, Int.reduceEq, ne_eq, not_false_eq_true, and_self, ld_26, ld_3, ld_4, size_4, und_4, zero_4, f3.ok, r3]
  refine W_call (all_81 f3.ok p1 p2 p3 _ _ _ _ _ _) ?_
  rintro _ hA ⟨rfl, frA, rA⟩
  have fA := f3.trans frA
  have nA := frA.next
  have lA := row_lt fA.ok rA
  simp (maxDischargeDepth := 30) only [AMS, AMH, ↓reduceIte, Nat.reduceLT, Nat.reduceEqDiff, Nat.reduceAdd, Nat.reduceMul, reduceCtorEq, decide_true, decide_false, Nat.reduceLeDiff, Int.reduceNe, Int.reduceEq, ne_eq, not_false_eq_true, and_self, ld_26, ld_3, ld_4, size_4, und_4, zero_4, fA.ok, L_range]
  have uA := frA.row' f3.ok u3
  have wA := frA.row' f3.ok w3
  have rA1 := frA.row' f3.ok r3
  have aA := frA.get' f3.ok a3
  have bA := frA.get' f3.ok b3
  generalize hf : eqB s T U = f
  refine W_range' (P := fun R _ h' => SJ h h2.next hA.next [.slice p1 s.offs.length c1, .slice p2 s.boards.length c2, .slice p3 s.tars.length c3] i j f R (allN s.boards s.boards.length) h' ∨ ∃ l1 l2, allN s.boards s.boards.length = l1 ++ l2 ∧ SS h h2.next hA.next f R l1 h') ?_ ?_
  · intro R hR
    have f4 : Fr hA ((hA.alloc (.deferred true)).alloc (.loop R)) := ((Fr.refl fA.ok).alloc _).alloc _
    have d4 : ((hA.alloc (.deferred true)).alloc (.loop R)).get hA.next = some (.deferred true) := by rw [get_old _ (by simp)]; exact get_at _ rfl
    have l4 : ((hA.alloc (.deferred true)).alloc (.loop R)).get (hA.next + 1) = some (.loop R) := get_at _ (by simp)
    have n4 : ((hA.alloc (.deferred true)).alloc (.loop R)).next = hA.next + 2 := by simp
    have G : Gen (fun x => x = h2.next ∨ x = h2.next + 1 ∨ x = hA.next + 1) (SJ h h2.next hA.next [.slice p1 s.offs.length c1, .slice p2 s.boards.length c2, .slice p3 s.tars.length c3] i j f R) (SS h h2.next hA.next f R) (hA.next + 1) h s.boards ((hA.alloc (.deferred true)).alloc (.loop R)).next := by
      refine ⟨fun x hx => by omega, fun x hx => by omega, ?_, ?_⟩
      · rintro D g g' q fr
        have kg := q.fr.ok
        exact ⟨q.fr.trans fr, fr.row' kg q.r, fr.row' kg q.u, fr.row' kg q.w, fr.get' kg q.a, fr.get' kg q.b, q.no, fr.get' kg q.d, fr.get' kg q.l⟩
      · intro D g v q kg hN fg hJ hq hSL
        have hL := SL.ls ints_len hSL
        have rok : isReady R.state = true := by rw [hR]; rfl
        have hA1 : R.assign = _ := congrArg ALoop.assign hR
        have hA2 : R.body = _ := congrArg ALoop.body hR
        have hA3 : R.params = _ := congrArg ALoop.params hR
        have hA4 : R.tmps = _ := congrArg ALoop.tmps hR
        have hR1 : (R.turn .busy R.pending).turn (stateBehind none) none = R := by rw [hR]; rfl
        simp only [loopRec] at hA1 hA2 hA3 hA4
        clear hR
        refine yield_of hJ.l (by rw [hA3]; rfl) ?_
        rw [hA1, hA2, hA3, hA4, setAll_one]
        have lg := get_lt kg hJ.l
        have gX : Gr (fun x => x = h2.next ∨ x = h2.next + 1 ∨ x = hA.next + 1) g (g.set (hA.next + 1) (.loop (R.turn .busy R.pending))) := ⟨kg.set lg _, by simp, fun x hx hn => by rw [Heap.get_set_ne _ _ (by omega)]⟩
        have fB : Fr h (g.set (hA.next + 1) (.loop (R.turn .busy R.pending))) := gX.fr hJ.fr fun x hx => by omega
        have kB := fB.ok
        have rB := gX.row' kg (by omega) hJ.r
        have uB := gX.row' kg (by omega) hJ.u
        have wB := gX.row' kg (by omega) hJ.w
        have aB : (g.set (hA.next + 1) (.loop (R.turn .busy R.pending))).get h2.next = some (.row [.bool (D.any f)] 0 true) := by rw [Heap.get_set_ne _ _ (by omega)]; exact hJ.a
        have bB : (g.set (hA.next + 1) (.loop (R.turn .busy R.pending))).get (h2.next + 1) = some (.row [.bool (D.any fun q => !f q)] 0 true) := by rw [Heap.get_set_ne _ _ (by omega)]; exact hJ.b
        have dB : (g.set (hA.next + 1) (.loop (R.turn .busy R.pending))).get hA.next = some (.deferred true) := by rw [Heap.get_set_ne _ _ (by omega)]; exact hJ.d
        have lB : (g.set (hA.next + 1) (.loop (R.turn .busy R.pending))).get (hA.next + 1) = some (.loop (R.turn .busy R.pending)) := get_set_self' _ _ _
        have hLB : LS (g.set (hA.next + 1) (.loop (R.turn .busy R.pending))) v q ints 1 := hL.rk ⟨kB, by simp, fun x l s o hx => by
          rw [Heap.get_set_ne _ _ (by rintro rfl; rw [hJ.l] at hx; simp at hx)]; exact hx⟩
        simp (maxDischargeDepth := 30) only [AMS, AMH, ↓reduceIte, Nat.reduceLT, Nat.reduceEqDiff, Nat.reduceAdd, Nat.reduceMul, reduceCtorEq, decide_true, decide_false, Nat.reduceLeDiff, Int.reduceNe, Int.reduceEq, ne_eq, not_false_eq_true, and_self, ld_26, ld_3, ld_4, size_4, und_4, zero_4, kg, L_begin hJ.l rok]
        generalize (g.set (hA.next + 1) (.loop (R.turn .busy R.pending))) = hB at gX fB kB rB uB wB aB bB dB lB hLB ⊢
        simp (maxDischargeDepth := 30) only [AMS, AMH, ↓reduceIte, Nat.reduceLT, Nat.reduceEqDiff, Nat.reduceAdd, Nat.reduceMul, reduceCtorEq, decide_true, decide_false, Nat.reduceLeDiff, Int.reduceNe, Int.reduceEq, ne_eq, not_false_eq_true, and_self, ld_26, ld_3, ld_4, size_4, und_4, zero_4, kB, rB, uB, wB]
        refine W_call (same_82 kB (by have := fB.next; omega) (hs.fr hk fB) hLB ok (allN_ok.2 hq) hT hU) ?_
        rintro _ hC ⟨rfl, frC⟩
        rw [hf]
        have fC := fB.trans frC
        have rC := frC.row' kB rB
        have uC := frC.row' kB uB
        have wC := frC.row' kB wB
        have aC := frC.get' kB aB
        have bC := frC.get' kB bB
        have dC := frC.get' kB dB
        have lC := frC.get' kB lB
        have mC := get_lt fC.ok lC
        have a2 : rowAt hC h2.next = some [.bool (D.any f)] := by unfold rowAt; rw [aC]; rfl
        have b2 : rowAt hC (h2.next + 1) = some [.bool (D.any fun q => !f q)] := by unfold rowAt; rw [bC]; rfl
        have ma : h2.next < hC.next := by omega
        have mb : h2.next + 1 < hC.next := by omega
        have no := hJ.no
        cases hfq : f q with
        | true =>
          have e1 : (D ++ [q]).any f = true := by rw [List.any_append]; simp [hfq]
          have e2' : (D ++ [q]).any (fun q => !f q) = D.any fun q => !f q := by rw [List.any_append]; simp [hfq]
          cases hG : D.any (fun q => !f q) with
          | true =>
            rw [hG] at b2 bC e2'
            have e2 := e2'
            simp (maxDischargeDepth := 30) only [AMS, AMH, ↓reduceIte, Nat.reduceLT, Nat.reduceEqDiff, Nat.reduceAdd, Nat.reduceMul, reduceCtorEq, decide_true, decide_false, Nat.reduceLeDiff, Int.reduceNe, Int.reduceEq, ne_eq, not_false_eq_true, and_self, ld_26, ld_3, ld_4, size_4, und_4, zero_4, fC.ok, aC, bC, a2, b2, ma, mb, List.set_cons_zero, L_nil, X_none, E_code, E_nil]
            have fE : Fr h ((hC.set (h2.next) (.row [.bool true] 0 true)).set (hA.next + 1) (.loop ((R.turn .busy R.pending).turn (stateBehind (some (.exit 0))) (some (.exit 0))))) := (fC.set (by omega) (by omega) _).set (by omega) (by rw [Heap.next_set]; omega) _
            have gE : Gr (fun x => x = h2.next ∨ x = h2.next + 1 ∨ x = hA.next + 1) g ((hC.set (h2.next) (.row [.bool true] 0 true)).set (hA.next + 1) (.loop ((R.turn .busy R.pending).turn (stateBehind (some (.exit 0))) (some (.exit 0))))) := ((gX.trans frC.gr).set (by omega) (by omega) _).set (by omega) (by rw [Heap.next_set]; omega) _
            have oE : ∀ x, x ≠ h2.next → x ≠ hA.next + 1 → ((hC.set (h2.next) (.row [.bool true] 0 true)).set (hA.next + 1) (.loop ((R.turn .busy R.pending).turn (stateBehind (some (.exit 0))) (some (.exit 0))))).get x = hC.get x := fun x h1 h2 => by rw [Heap.get_set_ne _ _ h2, Heap.get_set_ne _ _ h1]
            have mE : ((hC.set (h2.next) (.row [.bool true] 0 true)).set (hA.next + 1) (.loop ((R.turn .busy R.pending).turn (stateBehind (some (.exit 0))) (some (.exit 0))))).get (h2.next) = some (.row [.bool true] 0 true) := by rw [Heap.get_set_ne _ _ (by omega)]; exact get_set_self' _ _ _
            have lE : ((hC.set (h2.next) (.row [.bool true] 0 true)).set (hA.next + 1) (.loop ((R.turn .busy R.pending).turn (stateBehind (some (.exit 0))) (some (.exit 0))))).get (hA.next + 1) = some (.loop ((R.turn .busy R.pending).turn (stateBehind (some (.exit 0))) (some (.exit 0)))) := get_set_self' _ _ _

            refine ⟨some (.exit 0), _, rfl, trivial, by rw [Heap.get_set_ne _ _ (by omega)]; exact lC, gE, .inr ⟨rfl, fE, ?_, ?_, by rw [e1, e2]; rfl, (oE _ (by omega) (by omega)).trans dC, lE⟩⟩
            · exact mE
            · exact (oE _ (by omega) (by omega)).trans bC
          | false =>
            rw [hG] at b2 bC e2'
            have e2 := e2'
            simp (maxDischargeDepth := 30) only [AMS, AMH, ↓reduceIte, Nat.reduceLT, Nat.reduceEqDiff, Nat.reduceAdd, Nat.reduceMul, reduceCtorEq, decide_true, decide_false, Nat.reduceLeDiff, Int.reduceNe, Int.reduceEq, ne_eq, not_false_eq_true, and_self, ld_26, ld_3, ld_4, size_4, und_4, zero_4, fC.ok, aC, bC, a2, b2, ma, mb, List.set_cons_zero, L_nil]
            have fE : Fr h ((hC.set (h2.next) (.row [.bool true] 0 true)).set (hA.next + 1) (.loop ((R.turn .busy R.pending).turn (stateBehind none) none))) := (fC.set (by omega) (by omega) _).set (by omega) (by rw [Heap.next_set]; omega) _
            have gE : Gr (fun x => x = h2.next ∨ x = h2.next + 1 ∨ x = hA.next + 1) g ((hC.set (h2.next) (.row [.bool true] 0 true)).set (hA.next + 1) (.loop ((R.turn .busy R.pending).turn (stateBehind none) none))) := ((gX.trans frC.gr).set (by omega) (by omega) _).set (by omega) (by rw [Heap.next_set]; omega) _
            have oE : ∀ x, x ≠ h2.next → x ≠ hA.next + 1 → ((hC.set (h2.next) (.row [.bool true] 0 true)).set (hA.next + 1) (.loop ((R.turn .busy R.pending).turn (stateBehind none) none))).get x = hC.get x := fun x h1 h2 => by rw [Heap.get_set_ne _ _ h2, Heap.get_set_ne _ _ h1]
            have mE : ((hC.set (h2.next) (.row [.bool true] 0 true)).set (hA.next + 1) (.loop ((R.turn .busy R.pending).turn (stateBehind none) none))).get (h2.next) = some (.row [.bool true] 0 true) := by rw [Heap.get_set_ne _ _ (by omega)]; exact get_set_self' _ _ _
            have lE : ((hC.set (h2.next) (.row [.bool true] 0 true)).set (hA.next + 1) (.loop ((R.turn .busy R.pending).turn (stateBehind none) none))).get (hA.next + 1) = some (.loop ((R.turn .busy R.pending).turn (stateBehind none) none)) := get_set_self' _ _ _

            refine ⟨none, _, rfl, trivial, by rw [Heap.get_set_ne _ _ (by omega)]; exact lC, gE, .inl ⟨rfl, fE, ?_, ?_, ?_, ?_, ?_, ?_, ?_, ?_⟩⟩
            · unfold rowAt; rw [oE _ (by omega) (by omega)]; exact rC
            · unfold rowAt; rw [oE _ (by omega) (by omega)]; exact uC
            · unfold rowAt; rw [oE _ (by omega) (by omega)]; exact wC
            · rw [e1]; exact mE
            · rw [e2]; exact (oE _ (by omega) (by omega)).trans bC
            · rw [e1, e2]; rfl
            · exact (oE _ (by omega) (by omega)).trans dC
            · exact lE.trans (by rw [hR1])
        | false =>
          have e1' : (D ++ [q]).any f = D.any f := by rw [List.any_append]; simp [hfq]
          have e2 : (D ++ [q]).any (fun q => !f q) = true := by rw [List.any_append]; simp [hfq]
          cases hG : D.any f with
          | true =>
            rw [hG] at a2 aC e1'
            have e1 := e1'
            simp (maxDischargeDepth := 30) only [AMS, AMH, ↓reduceIte, Nat.reduceLT, Nat.reduceEqDiff, Nat.reduceAdd, Nat.reduceMul, reduceCtorEq, decide_true, decide_false, Nat.reduceLeDiff, Int.reduceNe, Int.reduceEq, ne_eq, not_false_eq_true, and_self, ld_26, ld_3, ld_4, size_4, und_4, zero_4, fC.ok, aC, bC, a2, b2, ma, mb, List.set_cons_zero, L_nil, X_none, E_code, E_nil]
            have fE : Fr h ((hC.set (h2.next + 1) (.row [.bool true] 0 true)).set (hA.next + 1) (.loop ((R.turn .busy R.pending).turn (stateBehind (some (.exit 0))) (some (.exit 0))))) := (fC.set (by omega) (by omega) _).set (by omega) (by rw [Heap.next_set]; omega) _
            have gE : Gr (fun x => x = h2.next ∨ x = h2.next + 1 ∨ x = hA.next + 1) g ((hC.set (h2.next + 1) (.row [.bool true] 0 true)).set (hA.next + 1) (.loop ((R.turn .busy R.pending).turn (stateBehind (some (.exit 0))) (some (.exit 0))))) := ((gX.trans frC.gr).set (by omega) (by omega) _).set (by omega) (by rw [Heap.next_set]; omega) _
            have oE : ∀ x, x ≠ h2.next + 1 → x ≠ hA.next + 1 → ((hC.set (h2.next + 1) (.row [.bool true] 0 true)).set (hA.next + 1) (.loop ((R.turn .busy R.pending).turn (stateBehind (some (.exit 0))) (some (.exit 0))))).get x = hC.get x := fun x h1 h2 => by rw [Heap.get_set_ne _ _ h2, Heap.get_set_ne _ _ h1]
            have mE : ((hC.set (h2.next + 1) (.row [.bool true] 0 true)).set (hA.next + 1) (.loop ((R.turn .busy R.pending).turn (stateBehind (some (.exit 0))) (some (.exit 0))))).get (h2.next + 1) = some (.row [.bool true] 0 true) := by rw [Heap.get_set_ne _ _ (by omega)]; exact get_set_self' _ _ _
            have lE : ((hC.set (h2.next + 1) (.row [.bool true] 0 true)).set (hA.next + 1) (.loop ((R.turn .busy R.pending).turn (stateBehind (some (.exit 0))) (some (.exit 0))))).get (hA.next + 1) = some (.loop ((R.turn .busy R.pending).turn (stateBehind (some (.exit 0))) (some (.exit 0)))) := get_set_self' _ _ _

            refine ⟨some (.exit 0), _, rfl, trivial, by rw [Heap.get_set_ne _ _ (by omega)]; exact lC, gE, .inr ⟨rfl, fE, ?_, ?_, by rw [e1, e2]; rfl, (oE _ (by omega) (by omega)).trans dC, lE⟩⟩
            · exact (oE _ (by omega) (by omega)).trans aC
            · exact mE
          | false =>
            rw [hG] at a2 aC e1'
            have e1 := e1'
            simp (maxDischargeDepth := 30) only [AMS, AMH, ↓reduceIte, Nat.reduceLT, Nat.reduceEqDiff, Nat.reduceAdd, Nat.reduceMul, reduceCtorEq, decide_true, decide_false, Nat.reduceLeDiff, Int.reduceNe, Int.reduceEq, ne_eq, not_false_eq_true, and_self, ld_26, ld_3, ld_4, size_4, und_4, zero_4, fC.ok, aC, bC, a2, b2, ma, mb, List.set_cons_zero, L_nil]
            have fE : Fr h ((hC.set (h2.next + 1) (.row [.bool true] 0 true)).set (hA.next + 1) (.loop ((R.turn .busy R.pending).turn (stateBehind none) none))) := (fC.set (by omega) (by omega) _).set (by omega) (by rw [Heap.next_set]; omega) _
            have gE : Gr (fun x => x = h2.next ∨ x = h2.next + 1 ∨ x = hA.next + 1) g ((hC.set (h2.next + 1) (.row [.bool true] 0 true)).set (hA.next + 1) (.loop ((R.turn .busy R.pending).turn (stateBehind none) none))) := ((gX.trans frC.gr).set (by omega) (by omega) _).set (by omega) (by rw [Heap.next_set]; omega) _
            have oE : ∀ x, x ≠ h2.next + 1 → x ≠ hA.next + 1 → ((hC.set (h2.next + 1) (.row [.bool true] 0 true)).set (hA.next + 1) (.loop ((R.turn .busy R.pending).turn (stateBehind none) none))).get x = hC.get x := fun x h1 h2 => by rw [Heap.get_set_ne _ _ h2, Heap.get_set_ne _ _ h1]
            have mE : ((hC.set (h2.next + 1) (.row [.bool true] 0 true)).set (hA.next + 1) (.loop ((R.turn .busy R.pending).turn (stateBehind none) none))).get (h2.next + 1) = some (.row [.bool true] 0 true) := by rw [Heap.get_set_ne _ _ (by omega)]; exact get_set_self' _ _ _
            have lE : ((hC.set (h2.next + 1) (.row [.bool true] 0 true)).set (hA.next + 1) (.loop ((R.turn .busy R.pending).turn (stateBehind none) none))).get (hA.next + 1) = some (.loop ((R.turn .busy R.pending).turn (stateBehind none) none)) := get_set_self' _ _ _

            refine ⟨none, _, rfl, trivial, by rw [Heap.get_set_ne _ _ (by omega)]; exact lC, gE, .inl ⟨rfl, fE, ?_, ?_, ?_, ?_, ?_, ?_, ?_, ?_⟩⟩
            · unfold rowAt; rw [oE _ (by omega) (by omega)]; exact rC
            · unfold rowAt; rw [oE _ (by omega) (by omega)]; exact uC
            · unfold rowAt; rw [oE _ (by omega) (by omega)]; exact wC
            · rw [e1]; exact (oE _ (by omega) (by omega)).trans aC
            · rw [e2]; exact mE
            · rw [e1, e2]; rfl
            · exact (oE _ (by omega) (by omega)).trans dC
            · exact lE.trans (by rw [hR1])
    obtain ⟨v, h', e, _, hP⟩ := all_108 hk f4.ok (by omega) G hs ok (fA.trans f4) (pS := h3.next) (by omega) (f4.row' fA.ok rA) ⟨fA.trans f4, f4.row' fA.ok rA1, f4.row' fA.ok uA, f4.row' fA.ok wA, f4.get' fA.ok aA, f4.get' fA.ok bA, rfl, d4, l4⟩
    exact ⟨v, h', e, hP⟩
  · rintro R hR _ h' hP
    rw [mark_nil]
    rcases hP with q | ⟨l1, l2, eL, q⟩
    · have hst : R.state = .ready := by rw [hR]; rfl
      have hpe : R.pending = none := by rw [hR]; rfl
      clear hR
      refine ⟨R, q.l, by rw [hst]; rfl, ?_⟩
      rw [hpe]
      generalize R.turn .exhausted none = R2
      have kq := q.fr.ok
      have lq := get_lt kq q.l
      have dq := get_lt kq q.d
      have fE : Fr h (h'.set (hA.next + 1) (.loop R2)) := q.fr.set (by omega) lq _
      have aE : rowAt (h'.set (hA.next + 1) (.loop R2)) h2.next = some [.bool ((allN s.boards s.boards.length).any f)] := by unfold rowAt; rw [Heap.get_set_ne _ _ (by omega), q.a]; rfl
      have bE : rowAt (h'.set (hA.next + 1) (.loop R2)) (h2.next + 1) = some [.bool ((allN s.boards s.boards.length).any fun q => !f q)] := by unfold rowAt; rw [Heap.get_set_ne _ _ (by omega), q.b]; rfl
      have dE : (h'.set (hA.next + 1) (.loop R2)).get hA.next = some (.deferred true) := by rw [Heap.get_set_ne _ _ (by omega)]; exact q.d
      have nE : (h'.set (hA.next + 1) (.loop R2)).next = h'.next := Heap.next_set _ _ _
      generalize (h'.set (hA.next + 1) (.loop R2)) = hE at fE aE bE dE nE ⊢
      have no := q.no
      unfold wordOf
      cases g1 : (allN s.boards s.boards.length).any f with
      | false =>
        rw [g1] at aE
        simp (maxDischargeDepth := 30) only [AMS, AMH, ↓reduceIte, Nat.reduceLT, Nat.reduceEqDiff, Nat.reduceAdd, Nat.reduceMul, reduceCtorEq, decide_true, decide_false, Nat.reduceLeDiff, Int.reduceNe, Int.reduceEq, ne_eq, not_false_eq_true, and_self, ld_26, ld_3, ld_4, size_4, und_4, zero_4, items_none, fE.ok, aE, bE, PostO_retD]
        exact ⟨dE, trivial, fE.set (by omega) (by omega) _⟩
      | true =>
        rw [g1] at aE no
        cases g2 : (allN s.boards s.boards.length).any (fun q => !f q) with
        | true => rw [g2] at no; simp at no
        | false =>
          rw [g2] at bE
          simp (maxDischargeDepth := 30) only [AMS, AMH, ↓reduceIte, Nat.reduceLT, Nat.reduceEqDiff, Nat.reduceAdd, Nat.reduceMul, reduceCtorEq, decide_true, decide_false, Nat.reduceLeDiff, Int.reduceNe, Int.reduceEq, ne_eq, not_false_eq_true, and_self, ld_26, ld_3, ld_4, size_4, und_4, zero_4, items_none, fE.ok, aE, bE, PostO_retD]
          exact ⟨dE, trivial, fE.set (by omega) (by omega) _⟩
    · clear hR
      refine ⟨_, q.l, rfl, ?_⟩
      show W (Lim CC none (itemsOf (some (.exit 0)) _) _ _) _
      generalize (R.turn .done (some (.exit 0))).turn .exhausted (R.turn .done (some (.exit 0))).pending = R2
      have kq := q.fr.ok
      have lq := get_lt kq q.l
      have dq := get_lt kq q.d
      have fE : Fr h (h'.set (hA.next + 1) (.loop R2)) := q.fr.set (by omega) lq _
      have aE : rowAt (h'.set (hA.next + 1) (.loop R2)) h2.next = some [.bool true] := by unfold rowAt; rw [Heap.get_set_ne _ _ (by omega), q.a]; rfl
      have bE : rowAt (h'.set (hA.next + 1) (.loop R2)) (h2.next + 1) = some [.bool true] := by unfold rowAt; rw [Heap.get_set_ne _ _ (by omega), q.b]; rfl
      have dE : (h'.set (hA.next + 1) (.loop R2)).get hA.next = some (.deferred true) := by rw [Heap.get_set_ne _ _ (by omega)]; exact q.d
      have nE : (h'.set (hA.next + 1) (.loop R2)).next = h'.next := Heap.next_set _ _ _
      generalize (h'.set (hA.next + 1) (.loop R2)) = hE at fE aE bE dE nE ⊢
      have yes := q.yes
      rw [Bool.and_eq_true] at yes
      have w1 : wordOf (allN s.boards s.boards.length) f = 2 := by
        unfold wordOf
        rw [eL, List.any_append, List.any_append, yes.1, yes.2]; rfl
      rw [w1]
      simp (maxDischargeDepth := 30) only [AMS, AMH, ↓reduceIte, Nat.reduceLT, Nat.reduceEqDiff, Nat.reduceAdd, Nat.reduceMul, reduceCtorEq, decide_true, decide_false, Nat.reduceLeDiff, Int.reduceNe, Int.reduceEq, ne_eq, not_false_eq_true, and_self, ld_26, ld_3, ld_4, size_4, und_4, zero_4, items_some, fE.ok, aE, bE, PostO_retD]
      exact ⟨dE, trivial, fE.set (by omega) (by omega) _⟩
end Go.Am
