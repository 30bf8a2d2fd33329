/- Parts 120 of the abstract machine over this program, joined: what each part says stands at its head. -/
import Derived.Test.YtfnkjclplfhjcaaGreatDoorJ119
set_option linter.unusedSimpArgs false
set_option linter.unusedVariables false
/- The abstract machine, part 120: contracts: all; same. -/
namespace Go.Am
open Go Go.Proofs

theorem all_81 {h : Heap} (hk : HOK h) (p1 p2 p3 : Option Addr) (a b c d e f : Nat) :
    CW CC 81 [.agg ⟨[.slice p1 a b, .slice p2 c d, .slice p3 e f]⟩] h fun r h' => r = .func (.func 108) ⟨[]⟩ ⟨[.pointer (some ⟨h.next, 0, none⟩)]⟩ ∧ Fr h h' ∧ rowAt h' h.next = some [.slice p1 a b, .slice p2 c d, .slice p3 e f] := by
  refine CW_in Tryz.f81 (by kernel_rfl) (by kernel_rfl) rfl rfl ?_
  simp only [Tryz.f81]
  have f1 : Fr h (h.alloc (.row [.slice p1 a b, .slice p2 c d, .slice p3 e f] 0 true)) := (Fr.refl hk).alloc _
  have r1 : rowAt (h.alloc (.row [.slice p1 a b, .slice p2 c d, .slice p3 e f] 0 true)) h.next = some [.slice p1 a b, .slice p2 c d, .slice p3 e f] := rowAt_new _ _ _ _
  simp (maxDischargeDepth := 30) only [AMS, AMH, ↓reduceIte, Nat.reduceLT, Nat.reduceEqDiff, Nat.reduceAdd, Nat.reduceMul, reduceCtorEq, decide_true, decide_false, Nat.reduceLeDiff, Int.reduceNe, Int.reduceEq, ne_eq, not_false_eq_true, and_self, L_nil, hk]
  exact ⟨trivial, f1, trivial⟩

set_option maxRecDepth 10000 in
set_option maxHeartbeats 2000000 in
theorem all_108 {X : Nat → Prop} {J S : List (List Int) → Heap → Prop} {l : Nat} {h0 h : Heap} {p1 p2 p3 : Option Addr} {c1 c2 c3 : Nat} {s : Sheet} (hk0 : HOK h0) (hk : HOK h) (hp : 0 < h.next) (G : Gen X J S l h0 s.boards h.next) (hs : IsSheet h0 (.slice p1 s.offs.length c1) (.slice p2 s.boards.length c2) (.slice p3 s.tars.length c3) s) (ok : s.ok = true)
    (fr : Fr h0 h) {pS : Nat} (xS : ¬ X pS) (rS : rowAt h pS = some [.slice p1 s.offs.length c1, .slice p2 s.boards.length c2, .slice p3 s.tars.length c3]) (hJ : J [] h) :
    CW CC 108 [(.func (.yield l) ⟨[]⟩ ⟨[]⟩), .pointer (some ⟨pS, 0, none⟩)] h fun _ h' => Gr X h h' ∧ (J (allN s.boards s.boards.length) h' ∨ ∃ l1 l2, allN s.boards s.boards.length = l1 ++ l2 ∧ S l1 h') := by
  refine CW_in Tryz.f108 (by kernel_rfl) (by kernel_rfl) rfl rfl ?_
  simp only [Tryz.f108]
  simp (maxDischargeDepth := 30) only [AMS, AMH, ↓reduceIte, Nat.reduceLT, Nat.reduceEqDiff, Nat.reduceAdd, Nat.reduceMul, reduceCtorEq, decide_true, decide_false, Nat.reduceLeDiff, Int.reduceNe, Int.reduceEq, ne_eq, not_false_eq_true, and_self, ld_43, size_43, zero_43, hk, List.set_cons_zero, List.getElem?_cons_zero, V_clo]
  have f1 : Fr h (((h.alloc (.row [(.func (.yield l) ⟨[]⟩ ⟨[]⟩)] 0 true)).alloc (.row [.nilFunc] 0 true)).set (h.next + 1) (.row [(.func (.func 109) ⟨[]⟩ ⟨[.pointer (some ⟨pS, 0, none⟩), .pointer (some ⟨h.next, 0, none⟩), .pointer (some ⟨h.next + 1, 0, none⟩)]⟩)] 0 true)) := (((Fr.refl hk).alloc _).alloc _).set (by omega) (by simp) _
  have s1 := f1.row' hk rS
  have y1 : rowAt (((h.alloc (.row [(.func (.yield l) ⟨[]⟩ ⟨[]⟩)] 0 true)).alloc (.row [.nilFunc] 0 true)).set (h.next + 1) (.row [(.func (.func 109) ⟨[]⟩ ⟨[.pointer (some ⟨pS, 0, none⟩), .pointer (some ⟨h.next, 0, none⟩), .pointer (some ⟨h.next + 1, 0, none⟩)]⟩)] 0 true)) h.next = some [(.func (.yield l) ⟨[]⟩ ⟨[]⟩)] := by rw [rowAt_set_lt _ (by omega), rowAt_old _ (by simp), rowAt_new]
  have w1 : rowAt (((h.alloc (.row [(.func (.yield l) ⟨[]⟩ ⟨[]⟩)] 0 true)).alloc (.row [.nilFunc] 0 true)).set (h.next + 1) (.row [(.func (.func 109) ⟨[]⟩ ⟨[.pointer (some ⟨pS, 0, none⟩), .pointer (some ⟨h.next, 0, none⟩), .pointer (some ⟨h.next + 1, 0, none⟩)]⟩)] 0 true)) (h.next + 1) = some [(.func (.func 109) ⟨[]⟩ ⟨[.pointer (some ⟨pS, 0, none⟩), .pointer (some ⟨h.next, 0, none⟩), .pointer (some ⟨h.next + 1, 0, none⟩)]⟩)] := rowAt_set_self _ _ _ _ _
  have n1 : (((h.alloc (.row [(.func (.yield l) ⟨[]⟩ ⟨[]⟩)] 0 true)).alloc (.row [.nilFunc] 0 true)).set (h.next + 1) (.row [(.func (.func 109) ⟨[]⟩ ⟨[.pointer (some ⟨pS, 0, none⟩), .pointer (some ⟨h.next, 0, none⟩), .pointer (some ⟨h.next + 1, 0, none⟩)]⟩)] 0 true)).next = h.next + 2 := by simp
  generalize (((h.alloc (.row [(.func (.yield l) ⟨[]⟩ ⟨[]⟩)] 0 true)).alloc (.row [.nilFunc] 0 true)).set (h.next + 1) (.row [(.func (.func 109) ⟨[]⟩ ⟨[.pointer (some ⟨pS, 0, none⟩), .pointer (some ⟨h.next, 0, none⟩), .pointer (some ⟨h.next + 1, 0, none⟩)]⟩)] 0 true)) = h1 at f1 s1 y1 w1 n1 ⊢
  have xY : ¬ X h.next := fun hx => by have := G.below _ hx; omega
  have xF : ¬ X (h.next + 1) := fun hx => by have := G.below _ hx; omega
  refine W_call (gen_109 hk0 G hs ok xS xY xF s.boards.length (p := []) f1.ok (by omega) (by omega) (fr.trans f1) s1 y1 w1 (by simp) (by simp [allN]) (SL.nil _ _ _) (fun _ => rfl) (G.stay _ _ _ hJ f1)) ?_
  rintro R h2 ⟨gr, hR⟩
  rw [exts_all] at hR
  simp only [List.nil_append] at hR
  simp (maxDischargeDepth := 30) only [AMS, AMH, ↓reduceIte, Nat.reduceLT, Nat.reduceEqDiff, Nat.reduceAdd, Nat.reduceMul, reduceCtorEq, decide_true, decide_false, Nat.reduceLeDiff, Int.reduceNe, Int.reduceEq, ne_eq, not_false_eq_true, and_self, ld_43, size_43, zero_43, gr.ok, Post_fin]
  refine ⟨(Fr.gr f1).trans gr, ?_⟩
  rcases hR with ⟨_, hJ⟩ | ⟨_, l1, l2, e, hS⟩
  · exact .inl hJ
  · exact .inr ⟨l1, l2, e, hS⟩

/-- by two tariffs as much is paid -/
def eqB (s : Sheet) (T U : Tar) (q : List Int) : Bool := decide (paid T s.boards q = paid U s.boards q)

set_option maxRecDepth 10000 in
set_option maxHeartbeats 2000000 in
theorem same_82 {h : Heap} (hk : HOK h) (hp : 0 < h.next) {a b c v : Value} {s : Sheet} {q : List Int} {i j : Nat} {T U : Tar} (hs : IsSheet h a b c s) (hv : LS h v q ints 1) (ok : s.ok = true) (hq : hoursOK s.boards q = true) (hT : s.tars[i]? = some T) (hU : s.tars[j]? = some U) :
    CW CC 82 [.agg ⟨[a, b, c]⟩, .int .i64 i, .int .i64 j, v] h fun r h' => r = .bool (eqB s T U q) ∧ Fr h h' := by
  have hlen := Sheet.ok_len ok
  have hil := (List.getElem?_eq_some_iff.1 hT).1
  have hjl := (List.getElem?_eq_some_iff.1 hU).1
  have tok := Sheet.ok_tars ok T (List.mem_of_getElem? hT)
  have uok := Sheet.ok_tars ok U (List.mem_of_getElem? hU)
  have hll := (hoursOK_at hq).1
  have q1 := qtys_b ok hq T
  have q2 := qtys_b ok hq U
  obtain ⟨p1, c1, rfl, _⟩ := hs.offs.open
  obtain ⟨p2, c2, rfl, _⟩ := hs.boards.open
  obtain ⟨p3, c3, rfl, x3⟩ := hs.tars.open
  obtain ⟨p4, c4, rfl, _⟩ := hv.open
  rcases x3 with hx | ⟨b3, o3, sp3, row3, rfl, rr3, x3⟩
  · rw [hx] at hil; simp at hil
  have e1 : take? row3 (o3 + i * 5) 5 = some T.cells := (x3 _ _ hT).1
  have e2 : take? row3 (o3 + j * 5) 5 = some U.cells := (x3 _ _ hU).1
  have kcT : T.cells.all selfC = true := rfl
  have kcU : U.cells.all selfC = true := rfl
  refine CW_in Tryz.f82 (by kernel_rfl) (by kernel_rfl) rfl rfl ?_
  simp only [Tryz.f82]
  have f1 : Fr h (h.alloc (.row [.slice p1 s.offs.length c1, .slice p2 s.boards.length c2, .slice (some ⟨b3, o3, sp3⟩) s.tars.length c3] 0 true)) := (Fr.refl hk).alloc _
  have r1 : rowAt (h.alloc (.row [.slice p1 s.offs.length c1, .slice p2 s.boards.length c2, .slice (some ⟨b3, o3, sp3⟩) s.tars.length c3] 0 true)) h.next = some [.slice p1 s.offs.length c1, .slice p2 s.boards.length c2, .slice (some ⟨b3, o3, sp3⟩) s.tars.length c3] := rowAt_new _ _ _ _
  have n1 : (h.alloc (.row [.slice p1 s.offs.length c1, .slice p2 s.boards.length c2, .slice (some ⟨b3, o3, sp3⟩) s.tars.length c3] 0 true)).next = h.next + 1 := by simp
  simp (maxDischargeDepth := 30) only [AMS, AMH, ↓reduceIte, Nat.reduceLT, Nat.reduceEqDiff, Nat.reduceAdd, Nat.reduceMul, reduceCtorEq, decide_true, decide_false, Nat.reduceLeDiff, Int.reduceNe, Int.reduceEq, ne_eq, not_false_eq_true, and_self, fp_26_2, ix_24, ld_24, ld_26, ld_41, ld_94, part_41, size_24, size_41, size_94, und_24, zero_24, zero_94, hk]
  generalize (h.alloc (.row [.slice p1 s.offs.length c1, .slice p2 s.boards.length c2, .slice (some ⟨b3, o3, sp3⟩) s.tars.length c3] 0 true)) = h1 at f1 r1 n1 ⊢
  refine W_call (bill_72 f1.ok (hs.fr hk f1) (hv.fr hk f1)) ?_
  rintro bv h2 ⟨m, fr2, hm2, hb2, hmap2⟩
  obtain ⟨ba, bb, bc, bd, rfl, hbs, hbh⟩ := hb2.ex
  have f2 := f1.trans fr2
  have r2 := fr2.row' f1.ok r1
  have n2 := fr2.next
  obtain ⟨x1, y1, rfl, _⟩ := hbs.offs.open
  obtain ⟨x2, y2, rfl, _⟩ := hbs.boards.open
  obtain ⟨x3', y3, rfl, _⟩ := hbs.tars.open
  obtain ⟨x4, y4, rfl, _⟩ := hbh.open
  have f3 : Fr h ((h2.alloc (.row [.slice none 0 0, .slice none 0 0, .slice none 0 0, .slice none 0 0, .map none] 0 true)).set h2.next (.row [.slice x1 s.offs.length y1, .slice x2 s.boards.length y2, .slice x3' s.tars.length y3, .slice x4 q.length y4, .map (some m)] 0 true)) := (f2.alloc _).set (by have := f2.next; omega) (by simp) _
  have fr3 : Fr h2 ((h2.alloc (.row [.slice none 0 0, .slice none 0 0, .slice none 0 0, .slice none 0 0, .map none] 0 true)).set h2.next (.row [.slice x1 s.offs.length y1, .slice x2 s.boards.length y2, .slice x3' s.tars.length y3, .slice x4 q.length y4, .map (some m)] 0 true)) := ((Fr.refl f2.ok).alloc _).set (Nat.le_refl _) (by simp) _
  have z3 : rowAt ((h2.alloc (.row [.slice none 0 0, .slice none 0 0, .slice none 0 0, .slice none 0 0, .map none] 0 true)).set h2.next (.row [.slice x1 s.offs.length y1, .slice x2 s.boards.length y2, .slice x3' s.tars.length y3, .slice x4 q.length y4, .map (some m)] 0 true)) h2.next = some [.slice x1 s.offs.length y1, .slice x2 s.boards.length y2, .slice x3' s.tars.length y3, .slice x4 q.length y4, .map (some m)] := rowAt_set_self _ _ _ _ _
  have n3 : ((h2.alloc (.row [.slice none 0 0, .slice none 0 0, .slice none 0 0, .slice none 0 0, .map none] 0 true)).set h2.next (.row [.slice x1 s.offs.length y1, .slice x2 s.boards.length y2, .slice x3' s.tars.length y3, .slice x4 q.length y4, .map (some m)] 0 true)).next = h2.next + 1 := by simp
  simp (maxDischargeDepth := 30) only [AMS, AMH, ↓reduceIte, Nat.reduceLT, Nat.reduceEqDiff, Nat.reduceAdd, Nat.reduceMul, reduceCtorEq, decide_true, decide_false, Nat.reduceLeDiff, Int.reduceNe, Int.reduceEq, ne_eq, not_false_eq_true, and_self, fp_26_2, ix_24, ld_24, ld_26, ld_41, ld_94, part_41, size_24, size_41, size_94, und_24, zero_24, zero_94, f2.ok]
  generalize ((h2.alloc (.row [.slice none 0 0, .slice none 0 0, .slice none 0 0, .slice none 0 0, .map none] 0 true)).set h2.next (.row [.slice x1 s.offs.length y1, .slice x2 s.boards.length y2, .slice x3' s.tars.length y3, .slice x4 q.length y4, .map (some m)] 0 true)) = h3 at f3 fr3 z3 n3 ⊢
  have r3 := fr3.row' f2.ok r2
  have hm3 := hmap2.fr f2.ok fr3
  have hb3 := hb2.fr f2.ok fr3
  have rr := f3.row' hk rr3
  have hml := hmap2.lt f2.ok
  have kb : ([.slice x1 s.offs.length y1, .slice x2 s.boards.length y2, .slice x3' s.tars.length y3, .slice x4 q.length y4, .map (some m)] : List Value).all selfC = true := rfl
  have kt : take? [.slice x1 s.offs.length y1, .slice x2 s.boards.length y2, .slice x3' s.tars.length y3, .slice x4 q.length y4, .map (some m)] 0 5 = some [.slice x1 s.offs.length y1, .slice x2 s.boards.length y2, .slice x3' s.tars.length y3, .slice x4 q.length y4, .map (some m)] := rfl
  refine W_draw [(true, 0), (true, 1), (true, 2), (true, 3), (true, 4), (true, 5), (true, 6), (true, 7)] (by kernel_rfl) ?_
  simp (maxDischargeDepth := 30) only [AMS, AMH, ↓reduceIte, Nat.reduceLT, Nat.reduceEqDiff, Nat.reduceAdd, Nat.reduceMul, reduceCtorEq, decide_true, decide_false, Nat.reduceLeDiff, Int.reduceNe, Int.reduceEq, ne_eq, not_false_eq_true, and_self, AMR, fp_26_2, ix_24, ld_24, ld_26, ld_41, ld_94, part_41, size_24, size_41, size_94, und_24, zero_24, zero_94, f3.ok, r3, z3, hil, rr, e1, kb, kt]
  refine W_callP (paid_73 (t := T) f3.ok (by omega) hb3 hm3 tok hll (by omega) fun x hx => by have := q1 x hx; omega) ?_
  rintro _ h4 ⟨rfl, F4⟩
  have f4 : Fr h h4 := F4.fr f3 (by have := f1.next; omega)
  have r4 : rowAt h4 h.next = some [.slice p1 s.offs.length c1, .slice p2 s.boards.length c2, .slice (some ⟨b3, o3, sp3⟩) s.tars.length c3] := by
    have : h4.get h.next = h3.get h.next := F4.get _ (by omega) (by omega)
    unfold rowAt at r3 ⊢; rw [this]; exact r3
  have z4 : rowAt h4 h2.next = some [.slice x1 s.offs.length y1, .slice x2 s.boards.length y2, .slice x3' s.tars.length y3, .slice x4 q.length y4, .map (some m)] := by
    have : h4.get h2.next = h3.get h2.next := F4.get _ (by omega) (by omega)
    unfold rowAt at z3 ⊢; rw [this]; exact z3
  have rr4 := f4.row' hk rr3
  simp (maxDischargeDepth := 30) only [AMS, AMH, ↓reduceIte, Nat.reduceLT, Nat.reduceEqDiff, Nat.reduceAdd, Nat.reduceMul, reduceCtorEq, decide_true, decide_false, Nat.reduceLeDiff, Int.reduceNe, Int.reduceEq, ne_eq, not_false_eq_true, and_self, AMR, fp_26_2, ix_24, ld_24, ld_26, ld_41, ld_94, part_41, size_24, size_41, size_94, und_24, zero_24, zero_94, f4.ok, r4, z4, hil, rr4, e1, kb, kt, kcT]
  have hb4 := hb3.rk (F4.rk f3.ok hm3)
  refine W_draw [(true, 0), (true, 1), (true, 2), (true, 3), (true, 4), (true, 5), (true, 6), (true, 7)] (by kernel_rfl) ?_
  simp (maxDischargeDepth := 30) only [AMS, AMH, ↓reduceIte, Nat.reduceLT, Nat.reduceEqDiff, Nat.reduceAdd, Nat.reduceMul, reduceCtorEq, decide_true, decide_false, Nat.reduceLeDiff, Int.reduceNe, Int.reduceEq, ne_eq, not_false_eq_true, and_self, AMR, fp_26_2, ix_24, ld_24, ld_26, ld_41, ld_94, part_41, size_24, size_41, size_94, und_24, zero_24, zero_94, f4.ok, r4, z4, hjl, rr4, e2, kb, kt]
  refine W_callP (paid_73 (t := U) f4.ok (by have := f4.next; omega) hb4 F4.map uok hll (by omega) fun x hx => by have := q2 x hx; omega) ?_
  rintro _ h5 ⟨rfl, F5⟩
  have f5 : Fr h h5 := F5.fr f4 (by have := f1.next; omega)
  have r5 : rowAt h5 h.next = some [.slice p1 s.offs.length c1, .slice p2 s.boards.length c2, .slice (some ⟨b3, o3, sp3⟩) s.tars.length c3] := by
    have : h5.get h.next = h4.get h.next := F5.get _ (by have := F4.next; omega) (by omega)
    unfold rowAt at r4 ⊢; rw [this]; exact r4
  have z5 : rowAt h5 h2.next = some [.slice x1 s.offs.length y1, .slice x2 s.boards.length y2, .slice x3' s.tars.length y3, .slice x4 q.length y4, .map (some m)] := by
    have : h5.get h2.next = h4.get h2.next := F5.get _ (by have := F4.next; omega) (by omega)
    unfold rowAt at z4 ⊢; rw [this]; exact z4
  have rr5 := f5.row' hk rr3
  simp (maxDischargeDepth := 30) only [AMS, AMH, ↓reduceIte, Nat.reduceLT, Nat.reduceEqDiff, Nat.reduceAdd, Nat.reduceMul, reduceCtorEq, decide_true, decide_false, Nat.reduceLeDiff, Int.reduceNe, Int.reduceEq, ne_eq, not_false_eq_true, and_self, AMR, fp_26_2, ix_24, ld_24, ld_26, ld_41, ld_94, part_41, size_24, size_41, size_94, und_24, zero_24, zero_94, f5.ok, r5, z5, hjl, rr5, e2, kb, kt, kcU]
  have eqe : (paid T s.boards q == paid U s.boards q) = eqB s T U q := by
    unfold eqB
    by_cases e : paid T s.boards q = paid U s.boards q
    · simp [e]
    · simp [e]
  rw [eqe]
  exact ⟨rfl, f5⟩
end Go.Am
