/- Parts 138, 139 of the abstract machine over this program, joined: what each part says stands at its head. -/
import Derived.Test.YtfnkjclplfhjcaaGreatDoorJ136
set_option linter.unusedSimpArgs false
set_option linter.unusedVariables false
/- The abstract machine, part 138: contracts: Print, Read. -/
namespace Go.Am
open Go Go.Proofs
theorem F83_Am138 : type_of% (And.intro @ld_3 <| And.intro @ld_31 <| And.intro @size_3 <| And.intro @size_31 <| And.intro @und_3 <| And.intro @und_31 <| And.intro @zero_3 @zero_31) := And.intro @ld_3 <| And.intro @ld_31 <| And.intro @size_3 <| And.intro @size_31 <| And.intro @und_3 <| And.intro @und_31 <| And.intro @zero_3 @zero_31

theorem as_107n (s : ByteArray) : aTypeAssert CC (.iface 129 (.agg ⟨[.string s]⟩)) 107 true = some (.tuple ⟨[.agg ⟨[.int .i64 0]⟩, .bool false]⟩) := by kernel_rfl
theorem as_129 (v : Value) : aTypeAssert CC (.iface 129 v) 129 true = some (.tuple ⟨[v, .bool true]⟩) := by kernel_rfl

set_option maxRecDepth 10000 in
theorem attempt1_text (p q : Nat) (s : ByteArray) (x y : Value) (h : Heap) (hk : HOK h) (hp : h.get p = some (.row [x] 0 true)) (hq : h.get q = some (.row [y] 0 true)) (hpq : p < q) :
    ∃ v h', callPlain CC (Lim CC) 111 [.pointer (some ⟨p, 0, none⟩), .pointer (some ⟨q, 0, none⟩)] h (some (.iface 129 (.agg ⟨[.string s]⟩))) = some (.ret v h' none) ∧
      rowAt h' p = some [x] ∧ h'.get q = some (.row [.int .i64 4] 0 true) ∧ HOK h' ∧ h.next ≤ h'.next ∧ ∀ j, j < h.next → j ≠ q → h'.get j = h.get j := by
  have ml := get_lt hk hp
  have mq := get_lt hk hq
  refine plain_of Tryz.f111 (Q := fun _ h' => rowAt h' p = some [x] ∧ h'.get q = some (.row [.int .i64 4] 0 true) ∧ HOK h' ∧ h.next ≤ h'.next ∧ ∀ j, j < h.next → j ≠ q → h'.get j = h.get j) (by kernel_rfl) rfl rfl ?_
  simp only [Tryz.f111]
  have f1 : Fr h ((h.alloc (.row [.string ⟨⟨[]⟩⟩] 0 true)).set h.next (.row [.string s] 0 true)) := ((Fr.refl hk).alloc _).set (Nat.le_refl _) (by simp) _
  simp (maxDischargeDepth := 30) only [AMS, AMH, ↓reduceIte, Nat.reduceLT, Nat.reduceEqDiff, Nat.reduceAdd, Nat.reduceMul, reduceCtorEq, decide_true, decide_false, Nat.reduceLeDiff, Int.reduceNe, Int.reduceEq, ne_eq, not_false_eq_true, and_self, fp_107_0, ld_3, size_107, size_129, size_3, size_31, und_3, und_31, zero_107, zero_129, zero_3, zero_31, hk, O_recover, eq_20, as_107n, as_129, List.set_cons_zero]
  generalize ((h.alloc (.row [.string ⟨⟨[]⟩⟩] 0 true)).set h.next (.row [.string s] 0 true)) = h1 at f1 ⊢
  have p1 := f1.row' hk (show rowAt h p = some [x] by unfold rowAt; rw [hp]; rfl)
  have q1 := f1.get' hk hq
  have n1 := f1.next
  simp (maxDischargeDepth := 30) only [AMS, AMH, ↓reduceIte, Nat.reduceLT, Nat.reduceEqDiff, Nat.reduceAdd, Nat.reduceMul, reduceCtorEq, decide_true, decide_false, Nat.reduceLeDiff, Int.reduceNe, Int.reduceEq, ne_eq, not_false_eq_true, and_self, fp_107_0, ld_3, size_107, size_129, size_3, size_31, und_3, und_31, zero_107, zero_129, zero_3, zero_31, f1.ok, q1, List.set_cons_zero, Post_end]
  refine ⟨?_, trivial, f1.ok.set (by omega) _, n1, fun j hj a => ?_⟩
  · rw [rowAt_set_lt _ hpq]; exact p1
  · rw [Heap.get_set_ne _ _ a]; exact f1.get j hj

set_option maxRecDepth 10000 in
theorem read1_94 {t : Bs} {px pS : Nat} {L : List Value} {h : Heap} (hk : HOK h) (hp : 0 < h.next) (hl : t.length ≤ 900) (gx : rowAt h px = some [.string (bs t)]) (hL : L.length = 3) (gS : h.get pS = some (.row L 0 true)) :
    CX CC 94 [.pointer (some ⟨px, 0, none⟩), .pointer (some ⟨pS, 0, none⟩)] h (fun _ h' => (∃ s a b c, parseB t = some s ∧ h'.get pS = some (.row [a, b, c] 0 true) ∧ Acc h.next h' a b c s) ∧ HOK h' ∧ h.next ≤ h'.next ∧ ∀ i, i < h.next → i ≠ pS → h'.get i = h.get i)
      fun e h' => parseB t = none ∧ noText e ∧ Fr h h' := by
  refine CX_in Tryz.f94 (by kernel_rfl) (by kernel_rfl) rfl rfl ?_
  simp only [Tryz.f94]
  simp (maxDischargeDepth := 30) only [AMS, AMH, ↓reduceIte, Nat.reduceLT, Nat.reduceEqDiff, Nat.reduceAdd, Nat.reduceMul, reduceCtorEq, decide_true, decide_false, Nat.reduceLeDiff, Int.reduceNe, Int.reduceEq, ne_eq, not_false_eq_true, and_self, ld_9, size_26, zero_26, hk, gx]
  refine W_callX (parsed_95 hk hp hl) ?_ ?_
  rotate_left
  · rintro e h1 ⟨hb, nt, f1⟩
    simp only [PostX_panic]
    exact ⟨hb, nt, f1⟩
  rintro _ h1 ⟨s, a, b, c, hs, rfl, A, f1⟩
  have g1 := f1.get' hk gS
  have k1 := f1.ok
  obtain ⟨p0, c0, e0⟩ := A.sheet.offs.len
  obtain ⟨p1, c1, e1⟩ := A.sheet.boards.len
  obtain ⟨p2, c2, e2⟩ := A.sheet.tars.len
  subst e0; subst e1; subst e2
  have hw : write? L 0 [.slice p0 s.offs.length c0, .slice p1 s.boards.length c1, .slice p2 s.tars.length c2] = some [.slice p0 s.offs.length c0, .slice p1 s.boards.length c1, .slice p2 s.tars.length c2] := write_all _ _ (by rw [hL]; rfl)
  simp (maxDischargeDepth := 30) only [AMS, AMH, ↓reduceIte, Nat.reduceLT, Nat.reduceEqDiff, Nat.reduceAdd, Nat.reduceMul, reduceCtorEq, decide_true, decide_false, Nat.reduceLeDiff, Int.reduceNe, Int.reduceEq, ne_eq, not_false_eq_true, and_self, ld_9, size_26, zero_26, k1, g1, hw, PostX_end]
  have pl := get_lt hk gS
  refine ⟨⟨s, _, _, _, hs, rfl, A.put g1 _⟩, k1.set (get_lt k1 g1) _, f1.next, fun i hi hne => ?_⟩
  rw [Heap.get_set_ne _ _ hne]; exact f1.get i hi

set_option maxRecDepth 10000 in
set_option maxHeartbeats 1000000 in
theorem attempt_94 {t : Bs} {px pS : Nat} {L : List Value} {h : Heap} (hk : HOK h) (hp : 0 < h.next) (hl : t.length ≤ 900) (gx : rowAt h px = some [.string (bs t)]) (hL : L.length = 3) (gS : h.get pS = some (.row L 0 true)) :
    CW CC 83 [.func (.func 94) ⟨[]⟩ ⟨[.pointer (some ⟨px, 0, none⟩), .pointer (some ⟨pS, 0, none⟩)]⟩] h fun r h' =>
      ((∃ s a b c, parseB t = some s ∧ r = .tuple ⟨[.int .i64 0, .int .i64 0]⟩ ∧ h'.get pS = some (.row [a, b, c] 0 true) ∧ Acc h.next h' a b c s) ∨ (parseB t = none ∧ r = .tuple ⟨[.int .i64 0, .int .i64 4]⟩)) ∧
      HOK h' ∧ h.next ≤ h'.next ∧ ∀ i, i < h.next → i ≠ pS → h'.get i = h.get i := by
  have pS0 := get_lt hk gS
  have key : W (Lim CC none [.code Tryz.f83.body.get!] ⟨T 7 (argsFn [.func (.func 94) ⟨[]⟩ ⟨[.pointer (some ⟨px, 0, none⟩), .pointer (some ⟨pS, 0, none⟩)]⟩]), [], none⟩ h) fun r s h' =>
      s.defers = [{ target := .fn (.func 111) ⟨[.pointer (some ⟨h.next, 0, none⟩), .pointer (some ⟨h.next + 1, 0, none⟩)]⟩, args := ⟨[]⟩ }] ∧ s.pan = none ∧ (∃ f, s.tmps = T 7 f ∧ f 2 = .pointer (some ⟨h.next, 0, none⟩) ∧ f 3 = .pointer (some ⟨h.next + 1, 0, none⟩)) ∧
      h'.get h.next = some (.row [.int .i64 0] 0 true) ∧ h'.get (h.next + 1) = some (.row [.int .i64 0] 0 true) ∧ HOK h' ∧ h.next + 2 ≤ h'.next ∧ (∀ i, i < h.next → i ≠ pS → h'.get i = h.get i) ∧
      ((r = .ended (some .ret) ∧ ∃ s a b c, parseB t = some s ∧ h'.get pS = some (.row [a, b, c] 0 true) ∧ Acc h.next h' a b c s) ∨ ∃ i, r = .panic (.iface 129 (.agg ⟨[.string i]⟩)) ∧ parseB t = none) := by
    simp only [Tryz.f83, Option.get!]
    have f0 : Fr h ((h.alloc (.row [.int .i64 0] 0 true)).alloc (.row [.int .i64 0] 0 true)) := ((Fr.refl hk).alloc _).alloc _
    have z1 : ((h.alloc (.row [.int .i64 0] 0 true)).alloc (.row [.int .i64 0] 0 true)).get h.next = some (.row [.int .i64 0] 0 true) := by rw [get_old _ (by simp)]; exact get_at _ rfl
    have z2 : ((h.alloc (.row [.int .i64 0] 0 true)).alloc (.row [.int .i64 0] 0 true)).get (h.next + 1) = some (.row [.int .i64 0] 0 true) := get_at _ (by simp)
    have n0 : ((h.alloc (.row [.int .i64 0] 0 true)).alloc (.row [.int .i64 0] 0 true)).next = h.next + 2 := by simp
    simp (maxDischargeDepth := 30) only [AMS, AMH, ↓reduceIte, Nat.reduceLT, Nat.reduceEqDiff, Nat.reduceAdd, Nat.reduceMul, reduceCtorEq, decide_true, decide_false, Nat.reduceLeDiff, Int.reduceNe, Int.reduceEq, ne_eq, not_false_eq_true, and_self, F83_Am138, hk, O_defer, ROr_defer, V_clo]
    generalize ((h.alloc (.row [.int .i64 0] 0 true)).alloc (.row [.int .i64 0] 0 true)) = h1 at f0 z1 z2 n0 ⊢
    refine W_callX (read1_94 f0.ok (by omega) hl (f0.row' hk gx) hL (f0.get' hk gS)) ?_ ?_
    · rintro v h2 ⟨⟨s, a, b, c, hs, g2, A⟩, k2, n2, fr2⟩
      have y1 : h2.get h.next = some (.row [.int .i64 0] 0 true) := by rw [fr2 _ (by omega) (by omega)]; exact z1
      have y2 : h2.get (h.next + 1) = some (.row [.int .i64 0] 0 true) := by rw [fr2 _ (by omega) (by omega)]; exact z2
      have y3 : (h2.set h.next (.row [.int .i64 0] 0 true)).get (h.next + 1) = some (.row [.int .i64 0] 0 true) := by rw [Heap.get_set_ne _ _ (by omega)]; exact y2
      simp (maxDischargeDepth := 30) only [AMS, AMH, ↓reduceIte, Nat.reduceLT, Nat.reduceEqDiff, Nat.reduceAdd, Nat.reduceMul, reduceCtorEq, decide_true, decide_false, Nat.reduceLeDiff, Int.reduceNe, Int.reduceEq, ne_eq, not_false_eq_true, and_self, F83_Am138, k2, y1, y3, List.set_cons_zero]
      have g3 : (h2.set h.next (.row [.int .i64 0] 0 true)).get pS = some (.row [a, b, c] 0 true) := by rw [Heap.get_set_ne _ _ (by omega)]; exact g2
      have g4 : ((h2.set h.next (.row [.int .i64 0] 0 true)).set (h.next + 1) (.row [.int .i64 0] 0 true)).get pS = some (.row [a, b, c] 0 true) := by rw [Heap.get_set_ne _ _ (by omega)]; exact g3
      refine ⟨trivial, trivial, ⟨_, rfl, by simp [upd_at], by simp [upd_at]⟩, trivial, trivial, (k2.set (by omega) _).set (by rw [Heap.next_set]; omega) _, by first | omega | (simp only [Heap.next_set]; omega), fun i hi hne => ?_, .inl ⟨trivial, s, a, b, c, hs, g4, ?_⟩⟩
      · rw [Heap.get_set_ne _ _ (by omega), Heap.get_set_ne _ _ (by omega), fr2 i (by omega) hne]; exact f0.get i hi
      · exact ((A.weak (by omega)).put y1 _).put y3 _
    · rintro v h2 ⟨hb, ⟨i, rfl⟩, fr2⟩
      have n2 := fr2.next
      exact ⟨rfl, rfl, ⟨_, rfl, by simp [upd_at], by simp [upd_at]⟩, fr2.get' f0.ok z1, fr2.get' f0.ok z2, fr2.ok, by omega, fun i hi _ => (f0.trans fr2).get i hi, .inr ⟨i, rfl, hb⟩⟩
  obtain ⟨r, s, h1, e, hd, hp', ⟨f, ht, f2, f3⟩, z1, z2, k1, n1, fr, hc⟩ := key
  rcases hc with ⟨rfl, s', a, b, c, hs, gs, A⟩ | ⟨i, rfl, p1⟩
  · obtain ⟨v, h2, e2, rfl⟩ := attempt1_ok h.next (h.next + 1) h1 k1
    have w1 : rowAt h2 h.next = some [.int .i64 0] := by unfold rowAt; rw [z1]; rfl
    have w2 : rowAt h2 (h.next + 1) = some [.int .i64 0] := by unfold rowAt; rw [z2]; rfl
    have hr : readResults CC s.tmps h2 Tryz.f83.results.toList = some [.int .i64 0, .int .i64 0] := by
      rw [ht]; simp only [Tryz.f83]; simp (maxDischargeDepth := 30) only [AMS, AMH, ↓reduceIte, Nat.reduceLT, Nat.reduceEqDiff, Nat.reduceAdd, Nat.reduceMul, reduceCtorEq, decide_true, decide_false, Nat.reduceLeDiff, Int.reduceNe, Int.reduceEq, ne_eq, not_false_eq_true, and_self, F83_Am138, f2, f3, w1, w2]
    exact ⟨_, h2, callF_defer (fn := Tryz.f83) (c := Tryz.f83.body.get!) (by kernel_rfl) (by kernel_rfl) rfl rfl e rfl hd hp' (by kernel_rfl) e2 hr, .inl ⟨s', a, b, c, hs, rfl, gs, A⟩, k1, by omega, fr⟩
  · obtain ⟨v, h2, e2, w1, g2, k2, n2, fr2⟩ := attempt1_text h.next (h.next + 1) i (.int .i64 0) (.int .i64 0) h1 k1 z1 z2 (by omega)
    have w2 : rowAt h2 (h.next + 1) = some [.int .i64 4] := by unfold rowAt; rw [g2]; rfl
    have hr : readResults CC s.tmps h2 Tryz.f83.results.toList = some [.int .i64 0, .int .i64 4] := by
      rw [ht]; simp only [Tryz.f83]; simp (maxDischargeDepth := 30) only [AMS, AMH, ↓reduceIte, Nat.reduceLT, Nat.reduceEqDiff, Nat.reduceAdd, Nat.reduceMul, reduceCtorEq, decide_true, decide_false, Nat.reduceLeDiff, Int.reduceNe, Int.reduceEq, ne_eq, not_false_eq_true, and_self, F83_Am138, f2, f3, w1, w2]
    refine ⟨_, h2, callF_defer (fn := Tryz.f83) (c := Tryz.f83.body.get!) (by kernel_rfl) (by kernel_rfl) rfl rfl e rfl hd hp' (by kernel_rfl) e2 hr, .inr ⟨p1, rfl⟩, k2, by omega, fun j hj hne => ?_⟩
    rw [fr2 j (by omega) (by omega)]
    exact fr j hj hne
end Go.Am

/- The abstract machine, part 139: contracts: Print, Read. -/
namespace Go.Am
open Go Go.Proofs
theorem F64_Am139 : type_of% (And.intro @bld_26 <| And.intro @fld_26_0 <| And.intro @fld_26_1 <| And.intro @fld_26_2 <| And.intro @ld_26 <| And.intro @ld_9 <| And.intro @len_9 <| And.intro @size_26 <| And.intro @sp_26_0 <| And.intro @sp_26_1 <| And.intro @sp_26_2 @zero_26) := And.intro @bld_26 <| And.intro @fld_26_0 <| And.intro @fld_26_1 <| And.intro @fld_26_2 <| And.intro @ld_26 <| And.intro @ld_9 <| And.intro @len_9 <| And.intro @size_26 <| And.intro @sp_26_0 <| And.intro @sp_26_1 <| And.intro @sp_26_2 @zero_26

def printB (s : Sheet) : Bs × Int := if s.ok = true then (textB s, 0) else ([], 2)
set_option maxRecDepth 10000 in
theorem print_63 {h : Heap} (hk : HOK h) (hp : 0 < h.next) {a b c : Value} {s : Sheet} (hs : IsSheet h a b c s) : CW CC 63 [.agg ⟨[a, b, c]⟩] h fun r h' => r = .tuple ⟨[.string (bs (printB s).1), .int .i64 (printB s).2]⟩ ∧ Fr h h' := by
  obtain ⟨p1, c1, rfl, _⟩ := hs.offs.open
  obtain ⟨p2, c2, rfl, _⟩ := hs.boards.open
  obtain ⟨p3, c3, rfl, _⟩ := hs.tars.open
  refine CW_in Tryz.f63 (by kernel_rfl) (by kernel_rfl) rfl rfl ?_
  simp only [Tryz.f63, bs_mk]
  have f1 : Fr h (h.alloc (.row [.slice p1 s.offs.length c1, .slice p2 s.boards.length c2, .slice p3 s.tars.length c3] 0 true)) := (Fr.refl hk).alloc _
  have r1 : rowAt (h.alloc (.row [.slice p1 s.offs.length c1, .slice p2 s.boards.length c2, .slice p3 s.tars.length c3] 0 true)) h.next = some [.slice p1 s.offs.length c1, .slice p2 s.boards.length c2, .slice p3 s.tars.length c3] := rowAt_new _ _ _ _
  simp (maxDischargeDepth := 30) only [AMS, AMH, ↓reduceIte, Nat.reduceLT, Nat.reduceEqDiff, Nat.reduceAdd, Nat.reduceMul, reduceCtorEq, decide_true, decide_false, Nat.reduceLeDiff, Int.reduceNe, Int.reduceEq, ne_eq, not_false_eq_true, and_self, ld_26, hk, bs_mk]
  have m1 : 0 < (h.alloc (.row [.slice p1 s.offs.length c1, .slice p2 s.boards.length c2, .slice p3 s.tars.length c3] 0 true)).next := by simp
  generalize (h.alloc (.row [.slice p1 s.offs.length c1, .slice p2 s.boards.length c2, .slice p3 s.tars.length c3] 0 true)) = h1 at f1 r1 m1 ⊢
  refine W_call (isSheet_85 f1.ok (hs.fr hk f1)) ?_
  rintro _ h2 ⟨rfl, fr2⟩
  have f2 := f1.trans fr2
  have r2 := fr2.row' f1.ok r1
  unfold printB
  cases hok : s.ok with
  | false =>
    simp (maxDischargeDepth := 30) only [AMS, AMH, ↓reduceIte, Nat.reduceLT, Nat.reduceEqDiff, Nat.reduceAdd, Nat.reduceMul, reduceCtorEq, decide_true, decide_false, Nat.reduceLeDiff, Int.reduceNe, Int.reduceEq, ne_eq, not_false_eq_true, and_self, ld_26, f2.ok]
    exact ⟨by simp, f2⟩
  | true =>
    obtain ⟨⟨l1, l2, l3⟩, _⟩ := Sheet.okB_iff.1 hok
    simp (maxDischargeDepth := 30) only [AMS, AMH, ↓reduceIte, Nat.reduceLT, Nat.reduceEqDiff, Nat.reduceAdd, Nat.reduceMul, reduceCtorEq, decide_true, decide_false, Nat.reduceLeDiff, Int.reduceNe, Int.reduceEq, ne_eq, not_false_eq_true, and_self, ld_26, f2.ok, r2]
    refine W_call (text_93 f2.ok (by have := fr2.next; omega) (hs.fr hk f2) (ok_okS hok) (by omega) (by omega) (by omega)) ?_
    rintro _ h3 ⟨rfl, fr3⟩
    simp (maxDischargeDepth := 30) only [AMS, AMH, ↓reduceIte, Nat.reduceLT, Nat.reduceEqDiff, Nat.reduceAdd, Nat.reduceMul, reduceCtorEq, decide_true, decide_false, Nat.reduceLeDiff, Int.reduceNe, Int.reduceEq, ne_eq, not_false_eq_true, and_self, ld_26, fr3.ok]
    exact ⟨by simp, f2.trans fr3⟩

def S0 : Sheet := ⟨[], [], []⟩
def readB (t : Bs) : Sheet × Int :=
  if 210 < t.length then (S0, 3) else match parseB t with
  | none => (S0, 4)
  | some s => if s.ok = true then (s, 0) else (S0, 2)
theorem S0_is (h : Heap) : IsSheet h (.slice none 0 0) (.slice none 0 0) (.slice none 0 0) S0 := ⟨.inl ⟨rfl, _, _, rfl⟩, .inl ⟨rfl, _, _, rfl⟩, .inl ⟨rfl, _, _, rfl⟩⟩
set_option maxRecDepth 10000 in
set_option maxHeartbeats 1000000 in
theorem read_64 {t : Bs} {h : Heap} (hk : HOK h) (hp : 0 < h.next) (hl : t.length ≤ 900) : CW CC 64 [.string (bs t)] h fun r h' => ∃ a b c, r = .tuple ⟨[.agg ⟨[a, b, c]⟩, .int .i64 (readB t).2]⟩ ∧ IsSheet h' a b c (readB t).1 ∧ Fr h h' := by
  refine CW_in Tryz.f64 (by kernel_rfl) (by kernel_rfl) rfl rfl ?_
  simp only [Tryz.f64, bs_mk]
  have f1 : Fr h ((h.alloc (.row [.string (bs t)] 0 true)).alloc (.row [.slice none 0 0, .slice none 0 0, .slice none 0 0] 0 true)) := ((Fr.refl hk).alloc _).alloc _
  have r1 : rowAt ((h.alloc (.row [.string (bs t)] 0 true)).alloc (.row [.slice none 0 0, .slice none 0 0, .slice none 0 0] 0 true)) h.next = some [.string (bs t)] := by rw [rowAt_old _ (by simp), rowAt_new]
  have z1 : ((h.alloc (.row [.string (bs t)] 0 true)).alloc (.row [.slice none 0 0, .slice none 0 0, .slice none 0 0] 0 true)).get (h.next + 1) = some (.row [.slice none 0 0, .slice none 0 0, .slice none 0 0] 0 true) := get_at _ (by simp)
  have n1 : ((h.alloc (.row [.string (bs t)] 0 true)).alloc (.row [.slice none 0 0, .slice none 0 0, .slice none 0 0] 0 true)).next = h.next + 2 := by simp
  simp (maxDischargeDepth := 30) only [AMS, AMH, ↓reduceIte, Nat.reduceLT, Nat.reduceEqDiff, Nat.reduceAdd, Nat.reduceMul, reduceCtorEq, decide_true, decide_false, Nat.reduceLeDiff, Int.reduceNe, Int.reduceEq, ne_eq, not_false_eq_true, and_self, F64_Am139, hk, bs_mk]
  generalize ((h.alloc (.row [.string (bs t)] 0 true)).alloc (.row [.slice none 0 0, .slice none 0 0, .slice none 0 0] 0 true)) = h1 at f1 r1 z1 n1 ⊢
  have k1 := f1.ok
  by_cases hlt : 210 < t.length
  · have d1 : decide ((((bs t).data.toList.length : Nat) : Int) > 210) = true := by show decide ((t.length : Int) > 210) = true; simp; omega
    have e : readB t = (S0, 3) := by unfold readB; rw [if_pos hlt]
    simp (maxDischargeDepth := 30) only [AMS, AMH, ↓reduceIte, Nat.reduceLT, Nat.reduceEqDiff, Nat.reduceAdd, Nat.reduceMul, reduceCtorEq, decide_true, decide_false, Nat.reduceLeDiff, Int.reduceNe, Int.reduceEq, ne_eq, not_false_eq_true, and_self, F64_Am139, k1, r1, d1, z1, e]
    exact ⟨_, _, _, rfl, S0_is _, f1.set (by omega) (by omega) _⟩
  have d1 : decide ((((bs t).data.toList.length : Nat) : Int) > 210) = false := by show decide ((t.length : Int) > 210) = false; simp; omega
  have fS : Fr h1 (h1.alloc (.row [.slice none 0 0, .slice none 0 0, .slice none 0 0] 0 true)) := (Fr.refl k1).alloc _
  have gS : (h1.alloc (.row [.slice none 0 0, .slice none 0 0, .slice none 0 0] 0 true)).get h1.next = some (.row [.slice none 0 0, .slice none 0 0, .slice none 0 0] 0 true) := get_at _ rfl
  have nS : (h1.alloc (.row [.slice none 0 0, .slice none 0 0, .slice none 0 0] 0 true)).next = h1.next + 1 := by simp
  simp (maxDischargeDepth := 30) only [AMS, AMH, ↓reduceIte, Nat.reduceLT, Nat.reduceEqDiff, Nat.reduceAdd, Nat.reduceMul, reduceCtorEq, decide_true, decide_false, Nat.reduceLeDiff, Int.reduceNe, Int.reduceEq, ne_eq, not_false_eq_true, and_self, F64_Am139, k1, r1, d1, V_clo]
  generalize (h1.alloc (.row [.slice none 0 0, .slice none 0 0, .slice none 0 0] 0 true)) = h2 at fS gS nS ⊢
  have k2 := fS.ok
  refine W_call (attempt_94 k2 (by omega) hl (fS.row' k1 r1) rfl gS) ?_
  rintro r h3 ⟨hr, k3, n3, fr3⟩
  have f3 : Fr h h3 := ⟨k3, by omega, fun i hi => by rw [fr3 i (by omega) (by omega), fS.get i (by omega)]; exact f1.get i hi⟩
  have z3 : h3.get (h.next + 1) = some (.row [.slice none 0 0, .slice none 0 0, .slice none 0 0] 0 true) := by rw [fr3 _ (by omega) (by omega), fS.get _ (by omega)]; exact z1
  rcases hr with ⟨s, a, b, c, hs, rfl, gS3, A⟩ | ⟨hs, rfl⟩
  rotate_left
  · have e : readB t = (S0, 4) := by unfold readB; rw [if_neg hlt, hs]
    have c1 : ((4 : Int) != 0) = true := rfl
    simp (maxDischargeDepth := 30) only [AMS, AMH, ↓reduceIte, Nat.reduceLT, Nat.reduceEqDiff, Nat.reduceAdd, Nat.reduceMul, reduceCtorEq, decide_true, decide_false, Nat.reduceLeDiff, Int.reduceNe, Int.reduceEq, ne_eq, not_false_eq_true, and_self, F64_Am139, k3, z3, c1, e]
    exact ⟨_, _, _, rfl, S0_is _, f3.set (by omega) (by omega) _⟩
  have c1 : ((0 : Int) != 0) = false := rfl
  have rS3 : rowAt h3 h1.next = some [a, b, c] := by unfold rowAt; rw [gS3]; rfl
  simp (maxDischargeDepth := 30) only [AMS, AMH, ↓reduceIte, Nat.reduceLT, Nat.reduceEqDiff, Nat.reduceAdd, Nat.reduceMul, reduceCtorEq, decide_true, decide_false, Nat.reduceLeDiff, Int.reduceNe, Int.reduceEq, ne_eq, not_false_eq_true, and_self, F64_Am139, k3, z3, c1, rS3]
  refine W_call (isSheet_85 k3 A.sheet) ?_
  rintro _ h4 ⟨rfl, fr4⟩
  have f4 := f3.trans fr4
  have k4 := fr4.ok
  have z4 := fr4.get' k3 z3
  have r4 := fr4.row' k3 rS3
  have A4 := A.fr k3 fr4
  cases hok : s.ok with
  | false =>
    have e : readB t = (S0, 2) := by unfold readB; rw [if_neg hlt, hs]; simp [hok]
    simp (maxDischargeDepth := 30) only [AMS, AMH, ↓reduceIte, Nat.reduceLT, Nat.reduceEqDiff, Nat.reduceAdd, Nat.reduceMul, reduceCtorEq, decide_true, decide_false, Nat.reduceLeDiff, Int.reduceNe, Int.reduceEq, ne_eq, not_false_eq_true, and_self, F64_Am139, k4, z4, e]
    exact ⟨_, _, _, rfl, S0_is _, f4.set (by omega) (by have := get_lt k4 z4; omega) _⟩
  | true =>
    have e : readB t = (s, 0) := by unfold readB; rw [if_neg hlt, hs]; simp [hok]
    obtain ⟨p0, c0, e0⟩ := A4.sheet.offs.len
    obtain ⟨p1, c1, e1⟩ := A4.sheet.boards.len
    obtain ⟨p2, c2, e2⟩ := A4.sheet.tars.len
    subst e0; subst e1; subst e2
    simp (maxDischargeDepth := 30) only [AMS, AMH, ↓reduceIte, Nat.reduceLT, Nat.reduceEqDiff, Nat.reduceAdd, Nat.reduceMul, reduceCtorEq, decide_true, decide_false, Nat.reduceLeDiff, Int.reduceNe, Int.reduceEq, ne_eq, not_false_eq_true, and_self, F64_Am139, k4, z4, r4, e]
    exact ⟨_, _, _, rfl, (A4.put z4 _).sheet, f4.set (by omega) (get_lt k4 z4) _⟩
end Go.Am
