/- Parts 119 of the abstract machine over this program, joined: what each part says stands at its head. -/
import Derived.Test.YtfnkjclplfhjcaaGreatDoorJ118
set_option linter.unusedSimpArgs false
set_option linter.unusedVariables false
/- The abstract machine, part 119: contracts: Clone; all lists of hours, given one by one. -/
namespace Go.Am
open Go Go.Proofs

theorem nil_22 (t : Tmp) : aBin CC .eql 22 (isConstO (.tmp t) || isConstO (.const (.slice none 0 0))) (.slice none 0 0) (.slice none 0 0) = some (.bool true) := by kernel_rfl
theorem nil_22s (t : Tmp) (a : Addr) (n c : Nat) : aBin CC .eql 22 (isConstO (.tmp t) || isConstO (.const (.slice none 0 0))) (.slice (some a) n c) (.slice none 0 0) = some (.bool false) := by kernel_rfl
theorem take_two {row : List Value} {i : Nat} {a b : Value} (h1 : row[i]? = some a) (h2 : row[i + 1]? = some b) : take? row i 2 = some [a, b] := by
  have e : (row.drop i).take 2 = [a, b] := by
    obtain ⟨l1, e1⟩ := List.getElem?_eq_some_iff.1 h1
    obtain ⟨l2, e2⟩ := List.getElem?_eq_some_iff.1 h2
    rw [List.drop_eq_getElem_cons l1, List.drop_eq_getElem_cons l2]
    simp [e1, e2]
  unfold take?; rw [e]; rfl
theorem same_clo (f : FuncId) (l m : List Value) (h1 : l.all selfC = true) (h2 : m.all selfC = true) : sameV (.func (.func f) ⟨l⟩ ⟨m⟩) (.func (.func f) ⟨l⟩ ⟨m⟩) = true := by
  simp [sameV, sameCs_refl h1, sameCs_refl h2]
theorem same_109 (a b c : Nat) : sameV (.func (.func 109) ⟨[]⟩ ⟨[.pointer (some ⟨a, 0, none⟩), .pointer (some ⟨b, 0, none⟩), .pointer (some ⟨c, 0, none⟩)]⟩) (.func (.func 109) ⟨[]⟩ ⟨[.pointer (some ⟨a, 0, none⟩), .pointer (some ⟨b, 0, none⟩), .pointer (some ⟨c, 0, none⟩)]⟩) = true := same_clo _ _ _ rfl rfl
theorem bs_22e : aBuildSlice CC 22 0 [] = some (.new (.row [] 1 true) (sliceTo 1 0 0)) := by kernel_rfl

set_option maxRecDepth 10000 in
theorem clone_110 {h : Heap} (hk : HOK h) (hp : 0 < h.next) {N : Nat} {v : Value} {p : List Int} (q : SL N h v (p.flatMap ints) 1 p.length) (h0 : p.length = 0 → v = .slice none 0 0) (hn : p.length ≤ 1000) :
    CW CC 110 [v] h fun r h' => SL h.next h' r (p.flatMap ints) 1 p.length ∧ Fr h h' := by
  refine CW_in Tryz.f110 (by kernel_rfl) (by kernel_rfl) rfl rfl ?_
  simp only [Tryz.f110]
  by_cases e : p.length = 0
  · obtain rfl := h0 e
    simp (maxDischargeDepth := 30) only [AMS, AMH, ↓reduceIte, Nat.reduceLT, Nat.reduceEqDiff, Nat.reduceAdd, Nat.reduceMul, reduceCtorEq, decide_true, decide_false, Nat.reduceLeDiff, Int.reduceNe, Int.reduceEq, ne_eq, not_false_eq_true, and_self, bs_22, ix_22, part_3, size_22, size_3, und_22, zero_22, hk, nil_22]
    rw [List.eq_nil_of_length_eq_zero e]
    exact ⟨SL.nil _ _ _, Fr.refl hk⟩
  · have hL := SL.ls ints_len q
    rcases q with ⟨_, _, e'⟩ | ⟨b, rfl, b0, bN, gb, hl⟩
    · exact absurd e' e
    obtain ⟨y, ys, rfl⟩ : ∃ y ys, p = y :: ys := by
      cases p with
      | nil => simp at e
      | cons y ys => exact ⟨y, ys, rfl⟩
    have f1 : Fr h (h.alloc (.row [] 1 true)) := (Fr.refl hk).alloc _
    have q1 : SL h.next (h.alloc (.row [] 1 true)) (sliceTo 1 0 0 h.next) [] 1 0 := SL.new (Nat.le_refl _) hp [] 1 0 rfl
    obtain ⟨h', e1, e2, e3, e4, e5⟩ := append_at (ts := []) app_22 f1 (by simp) q1 (x := .slice (some ⟨b, 0, some 1⟩) (y :: ys).length (y :: ys).length) (m := ys.length) rfl (hL.fr hk f1).cells (ints_one (y :: ys)) (flat_len ints_len _) (by simp at hn; omega)
    have e1' : aAppend CC [22, 22] (.slice (some ⟨h.next, 0, some 1⟩) 0 0) (.slice (some ⟨b, 0, some 1⟩) (ys.length + 1) (ys.length + 1)) (h.alloc (.row [] 1 true)) = some (.slice (some ⟨(h.alloc (.row [] 1 true)).next, 0, some 1⟩) (ys.length + 1) (ys.length + 1), h') := by
      have : 0 + (ys.length + 1) = ys.length + 1 := by omega
      rw [this] at e1
      exact e1
    have e2' : SL h.next h' (.slice (some ⟨(h.alloc (.row [] 1 true)).next, 0, some 1⟩) (ys.length + 1) (ys.length + 1)) ((y :: ys).flatMap ints) 1 (ys.length + 1) := by
      have : 0 + (ys.length + 1) = ys.length + 1 := by omega
      rw [this] at e2
      exact e2
    simp (maxDischargeDepth := 30) only [AMS, AMH, ↓reduceIte, Nat.reduceLT, Nat.reduceEqDiff, Nat.reduceAdd, Nat.reduceMul, reduceCtorEq, decide_true, decide_false, Nat.reduceLeDiff, Int.reduceNe, Int.reduceEq, ne_eq, not_false_eq_true, and_self, bs_22, ix_22, part_3, size_22, size_3, und_22, zero_22, hk, nil_22s, bs_22e, e1']
    exact ⟨e2', e3⟩

/-- somebody takes lists of hours, one after another -/
structure Gen (X : Nat → Prop) (J S : List (List Int) → Heap → Prop) (l : Nat) (h0 : Heap) (bs : List Board) (N : Nat) : Prop where
  below : ∀ i, X i → i < N
  above : ∀ i, X i → h0.next ≤ i
  stay : ∀ D h h', J D h → Fr h h' → J D h'
  round : ∀ D h v q, HOK h → N ≤ h.next → Fr h0 h → J D h → q ∈ allN bs bs.length → SL N h v (q.flatMap ints) 1 q.length →
    ∃ b h', yieldTo (Lim CC) l [v] h = some (.ret (.bool b) h' none) ∧ Gr X h h' ∧ ((b = true ∧ J (D ++ [q]) h') ∨ (b = false ∧ S (D ++ [q]) h'))

set_option maxRecDepth 10000 in
set_option maxHeartbeats 4000000 in
theorem gen_109 {X : Nat → Prop} {J S : List (List Int) → Heap → Prop} {l N : Nat} {h0 : Heap} {p1 p2 p3 : Option Addr} {c1 c2 c3 : Nat} {s : Sheet} (hk0 : HOK h0) (G : Gen X J S l h0 s.boards N) (hs : IsSheet h0 (.slice p1 s.offs.length c1) (.slice p2 s.boards.length c2) (.slice p3 s.tars.length c3) s) (ok : s.ok = true)
    {pS pY pF : Nat} (xS : ¬ X pS) (xY : ¬ X pY) (xF : ¬ X pF) : ∀ (d : Nat) {h : Heap} {v : Value} {p : List Int} {D : List (List Int)}, HOK h → N ≤ h.next → 0 < h.next → Fr h0 h → rowAt h pS = some [.slice p1 s.offs.length c1, .slice p2 s.boards.length c2, .slice p3 s.tars.length c3] → rowAt h pY = some [(.func (.yield l) ⟨[]⟩ ⟨[]⟩)] → rowAt h pF = some [(.func (.func 109) ⟨[]⟩ ⟨[.pointer (some ⟨pS, 0, none⟩), .pointer (some ⟨pY, 0, none⟩), .pointer (some ⟨pF, 0, none⟩)]⟩)] →
      p.length + d = s.boards.length → p ∈ allN s.boards p.length → SL N h v (p.flatMap ints) 1 p.length → (p.length = 0 → v = .slice none 0 0) → J D h →
      CW CC 109 [v, .pointer (some ⟨pS, 0, none⟩), .pointer (some ⟨pY, 0, none⟩), .pointer (some ⟨pF, 0, none⟩)] h fun r h' => Gr X h h' ∧ ((r = .bool true ∧ J (D ++ exts s.boards d p) h') ∨ (r = .bool false ∧ ∃ l1 l2, exts s.boards d p = l1 ++ l2 ∧ S (D ++ l1) h')) := by
  have hlen := Sheet.ok_len ok
  have hbs : ∀ b ∈ s.boards, 0 ≤ b.lo ∧ b.lo ≤ b.hi ∧ b.hi ≤ 40 ∧ b.hi - b.lo ≤ 6 := fun b hb => by
    have := of_decide_eq_true (Sheet.ok_boards ok b hb); omega
  obtain ⟨p2', c2', e2, x2⟩ := hs.boards.open
  simp at e2
  obtain ⟨rfl, rfl⟩ := e2
  intro d
  induction d with
  | zero =>
    intro h v p D hk hN hp fr rS rY rF hpd hpa q v0 hJ
    have hL := SL.ls ints_len q
    obtain ⟨pv, cv, rfl⟩ := hL.len
    have e : ((p.length : Nat) : Int) = (s.boards.length : Nat) := by omega
    rw [show p.length = s.boards.length by omega] at hpa
    obtain ⟨b, h', eY, g, hb⟩ := G.round D h _ p hk hN fr hJ hpa q
    refine CW_in Tryz.f109 (by kernel_rfl) (by kernel_rfl) rfl rfl ?_
    simp only [Tryz.f109]
    have eb : ((p.length : Int) == (s.boards.length : Int)) = true := by rw [e]; simp
    simp (maxDischargeDepth := 30) only [AMS, AMH, ↓reduceIte, Nat.reduceLT, Nat.reduceEqDiff, Nat.reduceAdd, Nat.reduceMul, reduceCtorEq, decide_true, decide_false, Nat.reduceLeDiff, Int.reduceNe, Int.reduceEq, ne_eq, not_false_eq_true, and_self, bs_22, fp_26_1, fp_30_0, fp_30_1, fp_72_2, ix_22, ix_23, ld_23, ld_3, ld_30, ld_43, len_22, len_23, part_3, part_72, size_22, size_23, size_3, size_30, size_72, und_22, und_23, zero_22, zero_23, zero_30, hk, rS, rY, eb, V_yield, eY]
    refine ⟨g, ?_⟩
    rcases hb with ⟨rfl, hj⟩ | ⟨rfl, hs⟩
    · exact .inl ⟨rfl, hj⟩
    · exact .inr ⟨rfl, [p], [], by simp [exts], hs⟩
  | succ d ihd =>
    intro h v p D hk hN hp fr rS rY rF hpd hpa q v0 hJ
    have hL := SL.ls ints_len q
    obtain ⟨pv, cv, rfl⟩ := hL.len
    obtain ⟨B, gB⟩ : ∃ x, s.boards[p.length]? = some x := ⟨_, List.getElem?_eq_getElem (by omega)⟩
    have bb := hbs B (List.mem_of_getElem? gB)
    have hpl : p.length < s.boards.length := by omega
    have eb : ((p.length : Int) == (s.boards.length : Int)) = false := by simp; omega
    rcases x2 with hx | ⟨b2, o2, sp2, row2, rfl, rr2, x2⟩
    · rw [hx] at hpl; simp at hpl
    have kb : take? row2 (o2 + p.length * 5) 5 = some B.cells := (x2 _ _ gB).1
    have kb2 : row2[o2 + p.length * 5 + 2]? = some (.int .i64 B.lo) := (x2 _ _ gB).2 2 (by omega)
    have kb3 : row2[o2 + p.length * 5 + 2 + 1]? = some (.int .i64 B.hi) := (x2 _ _ gB).2 3 (by omega)
    have rr := fr.row' hk0 rr2
    have ext := exts_succ (d := d) gB
    refine CW_in Tryz.f109 (by kernel_rfl) (by kernel_rfl) rfl rfl ?_
    simp only [Tryz.f109]
    simp (maxDischargeDepth := 30) only [AMS, AMH, ↓reduceIte, Nat.reduceLT, Nat.reduceEqDiff, Nat.reduceAdd, Nat.reduceMul, reduceCtorEq, decide_true, decide_false, Nat.reduceLeDiff, Int.reduceNe, Int.reduceEq, ne_eq, not_false_eq_true, and_self, bs_22, fp_26_1, fp_30_0, fp_30_1, fp_72_2, ix_22, ix_23, ld_23, ld_3, ld_30, ld_43, len_22, len_23, part_3, part_72, size_22, size_23, size_3, size_30, size_72, und_22, und_23, zero_22, zero_23, zero_30, hk, rS, rY, eb, hpl, rr, take_two kb2 kb3]
    have f1 : Fr h ((h.alloc (.row [.int .i64 0, .int .i64 0] 0 true)).set h.next (.row [.int .i64 B.lo, .int .i64 B.hi] 0 true)) := ((Fr.refl hk).alloc _).set (Nat.le_refl _) (by simp) _
    have z1 : rowAt ((h.alloc (.row [.int .i64 0, .int .i64 0] 0 true)).set h.next (.row [.int .i64 B.lo, .int .i64 B.hi] 0 true)) h.next = some [.int .i64 B.lo, .int .i64 B.hi] := rowAt_set_self _ _ _ _ _
    have n1 : ((h.alloc (.row [.int .i64 0, .int .i64 0] 0 true)).set h.next (.row [.int .i64 B.lo, .int .i64 B.hi] 0 true)).next = h.next + 1 := by simp
    generalize ((h.alloc (.row [.int .i64 0, .int .i64 0] 0 true)).set h.next (.row [.int .i64 B.lo, .int .i64 B.hi] 0 true)) = h1 at f1 z1 n1 ⊢
    have xZ : ¬ X h.next := fun hx => by have := G.below _ hx; omega
    have qq := q.fr hk f1
    have s1 := f1.row' hk rS
    have y1 := f1.row' hk rY
    have w1 := f1.row' hk rF
    have hJ1 := G.stay _ _ _ hJ f1
    have k1 := f1.ok
    have l7 : (hrs B).length = (B.hi - B.lo + 1).toNat := by unfold hrs; rw [List.length_map, List.length_range]
    generalize hlen' : (B.hi - B.lo + 1).toNat = len at l7
    refine W_loop len (fun m' f h' => ∃ m, m ≤ len ∧ m' = len - m ∧ f 0 = .slice pv p.length cv ∧ f 1 = .pointer (some ⟨pS, 0, none⟩) ∧ f 2 = .pointer (some ⟨pY, 0, none⟩) ∧ f 3 = .pointer (some ⟨pF, 0, none⟩) ∧ f 6 = .pointer (some ⟨h.next, 0, none⟩) ∧ f 7 = .int .i64 (B.lo + (m : Nat)) ∧
        Gr X h1 h' ∧ J (D ++ ((hrs B).take m).flatMap fun n => exts s.boards d (p ++ [n])) h')
      ⟨0, by omega, by omega, by simp [upd_at, argsFn_at], by simp [upd_at, argsFn_at], by simp [upd_at, argsFn_at], by simp [upd_at, argsFn_at], by simp [upd_at], by simp [upd_at], Gr.refl k1, by simpa using hJ1⟩ ?_
    rintro m' f h' ⟨m, hm, rfl, g0, g1, g2, g3, g6, g7, gr, hJ'⟩ ih
    have k' := gr.ok
    have nn := gr.next
    have S' := gr.row' k1 xS s1
    have Y' := gr.row' k1 xY y1
    have F' := gr.row' k1 xF w1
    have Z' := gr.row' k1 xZ z1
    have q' := qq.gr k1 gr G.below
    by_cases hml : m < len
    · have ltm : decide (B.lo + (m : Int) ≤ B.hi) = true := decide_eq_true (by omega)
      have wm : IntKind.i64.wrap (B.lo + (m : Int) + 1) = B.lo + ((m + 1 : Nat) : Int) := by rw [wrap64 (by omega) (by omega)]; omega
      have gm : (hrs B)[m]? = some (B.lo + m) := by
        unfold hrs; rw [List.getElem?_map, List.getElem?_range (by omega)]; rfl
      simp (maxDischargeDepth := 30) only [AMS, AMH, ↓reduceIte, Nat.reduceLT, Nat.reduceEqDiff, Nat.reduceAdd, Nat.reduceMul, reduceCtorEq, decide_true, decide_false, Nat.reduceLeDiff, Int.reduceNe, Int.reduceEq, ne_eq, not_false_eq_true, and_self, bs_22, fp_26_1, fp_30_0, fp_30_1, fp_72_2, ix_22, ix_23, ld_23, ld_3, ld_30, ld_43, len_22, len_23, part_3, part_72, size_22, size_23, size_3, size_30, size_72, und_22, und_23, zero_22, zero_23, zero_30, k', g0, g1, g2, g3, g6, g7, Z', ltm]
      refine W_draw [(true, 0), (true, 1), (true, 3), (true, 4), (true, 2), (false, 0), (false, 4), (true, 5), (false, 0), (true, 6), (true, 7)] (by kernel_rfl) ?_
      have fA : Fr h' (h'.alloc (.row [.int .i64 (B.lo + m)] 1 true)) := (Fr.refl k').alloc _
      have gA : (h'.alloc (.row [.int .i64 (B.lo + m)] 1 true)).get h'.next = some (.row [.int .i64 (B.lo + m)] 1 true) := get_at _ rfl
      have nA : (h'.alloc (.row [.int .i64 (B.lo + m)] 1 true)).next = h'.next + 1 := by simp
      simp (maxDischargeDepth := 30) only [AMS, AMH, ↓reduceIte, Nat.reduceLT, Nat.reduceEqDiff, Nat.reduceAdd, Nat.reduceMul, reduceCtorEq, decide_true, decide_false, Nat.reduceLeDiff, Int.reduceNe, Int.reduceEq, ne_eq, not_false_eq_true, and_self, AMR, bs_22, fp_26_1, fp_30_0, fp_30_1, fp_72_2, ix_22, ix_23, ld_23, ld_3, ld_30, ld_43, len_22, len_23, part_3, part_72, size_22, size_23, size_3, size_30, size_72, und_22, und_23, zero_22, zero_23, zero_30, k', g0, g1, g2, g3, g6, g7, F']
      generalize (h'.alloc (.row [.int .i64 (B.lo + m)] 1 true)) = hA at fA gA nA ⊢
      refine W_callP (clone_110 fA.ok (by omega) (q'.fr k' fA) v0 (by omega)) ?_
      rintro r hB ⟨qB, frB⟩
      have fB := fA.trans frB
      have gB' := frB.get' fA.ok gA
      have FB := fB.row' k' F'
      have nB := frB.next
      obtain ⟨hC, e1, e2, frC, nC, _⟩ := append_at (ts := []) app_22 frB (by omega) qB (x := .slice (some ⟨h'.next, 0, some 1⟩) 1 1) (new := [.int .i64 (B.lo + m)]) (m := 0) rfl (by
        show obind (rowAt hB h'.next) (fun cells => take? cells 0 (1 * 1)) = _
        unfold rowAt; rw [gB']; rfl) rfl rfl (by omega)
      have e1' : aAppend CC [22, 22] r (.slice (some ⟨h'.next, 0, some 1⟩) 1 1) hB = some (.slice (some ⟨hB.next, 0, some 1⟩) (p.length + 1) (p.length + 1), hC) := e1
      have fC := fA.trans frC
      have FC := fC.row' k' F'
      simp (maxDischargeDepth := 30) only [AMS, AMH, ↓reduceIte, Nat.reduceLT, Nat.reduceEqDiff, Nat.reduceAdd, Nat.reduceMul, reduceCtorEq, decide_true, decide_false, Nat.reduceLeDiff, Int.reduceNe, Int.reduceEq, ne_eq, not_false_eq_true, and_self, AMR, bs_22, fp_26_1, fp_30_0, fp_30_1, fp_72_2, ix_22, ix_23, ld_23, ld_3, ld_30, ld_43, len_22, len_23, part_3, part_72, size_22, size_23, size_3, size_30, size_72, und_22, und_23, zero_22, zero_23, zero_30, fB.ok, g0, g1, g2, g3, g6, g7, FB, gB', e1', FC, same_109, V_clo]
      have pl : (p ++ [B.lo + (m : Int)]).length = p.length + 1 := by simp
      refine W_callP (ihd (p := p ++ [B.lo + m]) fC.ok (by omega) (by omega) ((gr.fr (fr.trans f1) G.above).trans fC) (fC.row' k' S') (fC.row' k' Y') FC (by omega) (by rw [pl]; exact allN_snoc gB hpa (List.mem_of_getElem? gm)) (by
        rw [pl, List.flatMap_append]
        exact e2.low (by omega)) (by rw [pl]; intro hc; omega) (G.stay _ _ _ hJ' fC)) ?_
      rintro R h2 ⟨gr2, hR⟩
      have grT := (gr.trans fC.gr).trans gr2
      have ztot : ((hrs B).take (m + 1)).flatMap (fun n => exts s.boards d (p ++ [n])) = ((hrs B).take m).flatMap (fun n => exts s.boards d (p ++ [n])) ++ exts s.boards d (p ++ [B.lo + m]) := by
        rw [take_snoc gm, List.flatMap_append]; simp
      rcases hR with ⟨rfl, hJ2⟩ | ⟨rfl, l1, l2, el, hS⟩
      · simp (maxDischargeDepth := 30) only [AMS, AMH, ↓reduceIte, Nat.reduceLT, Nat.reduceEqDiff, Nat.reduceAdd, Nat.reduceMul, reduceCtorEq, decide_true, decide_false, Nat.reduceLeDiff, Int.reduceNe, Int.reduceEq, ne_eq, not_false_eq_true, and_self, AMR, bs_22, fp_26_1, fp_30_0, fp_30_1, fp_72_2, ix_22, ix_23, ld_23, ld_3, ld_30, ld_43, len_22, len_23, part_3, part_72, size_22, size_23, size_3, size_30, size_72, und_22, und_23, zero_22, zero_23, zero_30, gr2.ok, g0, g1, g2, g3, g6, g7, wm]
        refine ih (len - (m + 1)) _ _ (by omega) ?_
        refine ⟨m + 1, by omega, rfl, by simp [upd_at, g0], by simp [upd_at, g1], by simp [upd_at, g2], by simp [upd_at, g3], by simp [upd_at, g6], by simp [upd_at], grT, ?_⟩
        rw [ztot, ← List.append_assoc]
        exact hJ2
      · simp (maxDischargeDepth := 30) only [AMS, AMH, ↓reduceIte, Nat.reduceLT, Nat.reduceEqDiff, Nat.reduceAdd, Nat.reduceMul, reduceCtorEq, decide_true, decide_false, Nat.reduceLeDiff, Int.reduceNe, Int.reduceEq, ne_eq, not_false_eq_true, and_self, AMR, bs_22, fp_26_1, fp_30_0, fp_30_1, fp_72_2, ix_22, ix_23, ld_23, ld_3, ld_30, ld_43, len_22, len_23, part_3, part_72, size_22, size_23, size_3, size_30, size_72, und_22, und_23, zero_22, zero_23, zero_30, gr2.ok, g0, g1, g2, g3, g6, g7]
        refine ⟨(Fr.gr f1).trans grT, .inr ⟨trivial, ((hrs B).take m).flatMap (fun n => exts s.boards d (p ++ [n])) ++ l1, l2 ++ ((hrs B).drop (m + 1)).flatMap (fun n => exts s.boards d (p ++ [n])), ?_, ?_⟩⟩
        · rw [ext]
          conv => lhs; rw [← List.take_append_drop (m + 1) (hrs B)]
          rw [List.flatMap_append, ztot, el]
          simp [List.append_assoc]
        · rw [← List.append_assoc]
          exact hS
    · have hmE : m = len := by omega
      subst hmE
      have ltm : decide (B.lo + (m : Int) ≤ B.hi) = false := decide_eq_false (by omega)
      simp (maxDischargeDepth := 30) only [AMS, AMH, ↓reduceIte, Nat.reduceLT, Nat.reduceEqDiff, Nat.reduceAdd, Nat.reduceMul, reduceCtorEq, decide_true, decide_false, Nat.reduceLeDiff, Int.reduceNe, Int.reduceEq, ne_eq, not_false_eq_true, and_self, bs_22, fp_26_1, fp_30_0, fp_30_1, fp_72_2, ix_22, ix_23, ld_23, ld_3, ld_30, ld_43, len_22, len_23, part_3, part_72, size_22, size_23, size_3, size_30, size_72, und_22, und_23, zero_22, zero_23, zero_30, k', g0, g1, g2, g3, g6, g7, Z', ltm]
      refine ⟨(Fr.gr f1).trans gr, .inl ⟨trivial, ?_⟩⟩
      rw [ext]
      rw [← l7, List.take_length] at hJ'
      exact hJ'
end Go.Am
