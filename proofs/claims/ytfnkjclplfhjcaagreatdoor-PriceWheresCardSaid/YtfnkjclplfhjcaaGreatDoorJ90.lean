/- Parts 90, 91 of the abstract machine over this program, joined: what each part says stands at its head. -/
import Derived.Test.YtfnkjclplfhjcaaGreatDoorJ81
import Derived.Test.YtfnkjclplfhjcaaGreatDoorJ87
set_option linter.unusedSimpArgs false
set_option linter.unusedVariables false
/- The abstract machine, part 90: panics, what is deferred, and recover, in equations; attempt. -/
namespace Go.Am
open Go Go.Proofs

section
variable {C : Ctx} {rd : Option Nat} {ops l : List Oper} {k : List Item} {s : FrS} {h : Heap} {dst : Option Tmp} {ty : TypeId} {pos : String} {aft : Array Edge}
theorem O_panic (x : Operand) : RO C rd ops (⟨dst, .panic x, ty, pos, aft, none⟩ :: l) k s h = ROr C rd ops l k (panicOp s h (ev s.tmps x)) := RO_eff _ rfl
theorem ROr_panic (t : TypeId) (v : Value) : ROr C rd ops l k (panicOp s h (.iface t v)) = some (.panic (.iface t v), s, h) := rfl
theorem O_defer (f : Operand) (xs : List Operand) (ts : Array TypeId) : RO C none ops (⟨dst, .defer ⟨.value f, ⟨xs⟩, ts⟩, ty, pos, aft, none⟩ :: l) k s h = ROr C none ops l k (deferVal dst (xs.map (ev s.tmps)) s h (ev s.tmps f)) := RO_eff _ rfl
theorem ROr_defer (fn : Fn) (first cap : List Value) (args : List Value) : ROr C rd ops l k (deferVal none args s h (.func fn ⟨first⟩ ⟨cap⟩)) = RO C rd ops l k ⟨s.tmps, { target := .fn fn ⟨cap⟩, args := ⟨first ++ args⟩ } :: s.defers, s.pan⟩ h := rfl
theorem O_recover {d n : Nat} {f : Nat → Value} {D : List Deferred} (v : Value) (ts : Array TypeId) : RO C none ops (⟨some d, .call ⟨.builtin .recover, ⟨[]⟩, ts⟩, ty, pos, aft, none⟩ :: l) k ⟨T n f, D, some v⟩ h = RO C none ops l k ⟨T n (upd f d v), D, none⟩ h := by
  rw [RO_eff _ rfl]
  show ROr C none ops l k (some (.ok ⟨(FrS.put ⟨T n f, D, some v⟩ (some d) v).tmps, D, none⟩ h)) = _
  rw [P_some]; rfl
theorem O_recover0 {d n : Nat} {f : Nat → Value} {D : List Deferred} (ts : Array TypeId) : RO C none ops (⟨some d, .call ⟨.builtin .recover, ⟨[]⟩, ts⟩, ty, pos, aft, none⟩ :: l) k ⟨T n f, D, none⟩ h = RO C none ops l k ⟨T n (upd f d .nilIface), D, none⟩ h := by
  rw [RO_eff _ rfl]
  show ROr C none ops l k (some (.ok (FrS.put ⟨T n f, D, none⟩ (some d) .nilIface) h)) = _
  rw [P_some]; rfl
end

theorem Post_end (C : Ctx) (rs : List ResultVar) (Q : Value → Heap → Prop) (n : Nat) (f : Nat → Value) (h : Heap) : Post C rs Q (.ended none) ⟨T n f, [], none⟩ h ↔ PR Q h (readResults C (T n f) h rs) := by
  simp [Post]

/-- a call comes out, or panics -/
def CX (C : Ctx) (f : FuncId) (args : List Value) (h : Heap) (Q R : Value → Heap → Prop) : Prop :=
  (∃ v h', callF C (Lim C) f args h = some (.ret v h' none) ∧ Q v h') ∨ ∃ v h', callF C (Lim C) f args h = some (.panic v h') ∧ R v h'
def PostX (C : Ctx) (rs : List ResultVar) (Q R : Value → Heap → Prop) (r : FEnd) (s : FrS) (h' : Heap) : Prop := Post C rs Q r s h' ∨ ∃ v, r = .panic v ∧ s.defers = [] ∧ R v h'
theorem PostX_ret (C : Ctx) (rs : List ResultVar) (Q R : Value → Heap → Prop) (n : Nat) (f : Nat → Value) (h : Heap) : PostX C rs Q R (.ended (some .ret)) ⟨T n f, [], none⟩ h ↔ PR Q h (readResults C (T n f) h rs) := by
  simp [PostX, Post_ret]
theorem PostX_end (C : Ctx) (rs : List ResultVar) (Q R : Value → Heap → Prop) (n : Nat) (f : Nat → Value) (h : Heap) : PostX C rs Q R (.ended none) ⟨T n f, [], none⟩ h ↔ PR Q h (readResults C (T n f) h rs) := by
  simp [PostX, Post_end]
theorem PostX_panic (C : Ctx) (rs : List ResultVar) (Q R : Value → Heap → Prop) (v : Value) (n : Nat) (f : Nat → Value) (p : Option Value) (h : Heap) : PostX C rs Q R (.panic v) ⟨T n f, [], p⟩ h ↔ R v h := by
  simp [PostX, Post]

theorem CX_in {C : Ctx} {f : FuncId} (fn : Func) {c : Code} {args : List Value} {h : Heap} {Q R : Value → Heap → Prop} (hA : C.A f = none) (hF : C.F.get f = some fn) (hb : fn.body = some c) (hn : Nat.ble args.length fn.ntmps = true)
    (hw : W (Lim C none [.code c] ⟨T fn.ntmps (argsFn args), [], none⟩ h) (PostX C fn.results.toList Q R)) : CX C f args h Q R := by
  obtain ⟨r, s, h', e, hp | ⟨v, rfl, hd, hR⟩⟩ := hw
  · obtain ⟨v, h1, e1, q⟩ := CW_in (Q := Q) fn hA hF hb hn ⟨r, s, h', e, hp⟩
    exact .inl ⟨v, h1, e1, q⟩
  · refine .inr ⟨v, h', ?_, hR⟩
    rw [callF_go args h hA hF hb (Nat.le_of_ble_eq_true hn), e]
    simp only [finish, obind_some, endMode, hd]
    rfl

theorem W_callX {C : Ctx} {rd : Option Nat} {ops l : List Oper} {k : List Item} {dst : Option Tmp} {s : FrS} {h : Heap} {Q : FEnd → FrS → Heap → Prop} {f : FuncId} {args : List Value} {P R : Value → Heap → Prop}
    (hc : CX C f args h P R) (hw : ∀ v h', P v h' → W (RO C rd ops l k (s.put dst v) h') Q) (hr : ∀ v h', R v h' → Q (.panic v) s h') : W (ROc C rd ops l k dst s (callF C (Lim C) f args h)) Q := by
  rcases hc with ⟨v, h', e, hp⟩ | ⟨v, h', e, hp⟩
  · rw [e, ROc_ret]; exact hw v h' hp
  · rw [e, ROc_panic]; exact ⟨_, _, _, rfl, hr v h' hp⟩

/-- a deferred call -/
theorem plain_of {C : Ctx} {g : FuncId} (fn : Func) {c : Code} {args : List Value} {pan : Option Value} {h : Heap} {Q : Value → Heap → Prop} (hF : C.F.get g = some fn) (hb : fn.body = some c) (hn : Nat.ble args.length fn.ntmps = true)
    (hw : W (Lim C none [.code c] ⟨T fn.ntmps (argsFn args), [], pan⟩ h) (Post C fn.results.toList Q)) : ∃ v h', callPlain C (Lim C) g args h pan = some (.ret v h' none) ∧ Q v h' := by
  obtain ⟨r, s, h', e, hr, hd, hp, hq⟩ := hw
  have hm : endMode r = some none := by rcases hr with rfl | rfl <;> rfl
  revert hq
  cases hrr : readResults C s.tmps h' fn.results.toList with
  | none => exact fun h => h.elim
  | some vs =>
    intro hq
    refine ⟨packResults vs, h', ?_, hq⟩
    unfold callPlain
    rw [hF]
    simp only [obind_some, bodyOf, hb, mkTmps_T args fn.ntmps (Nat.le_of_ble_eq_true hn), e, hd, noDefers, guardB_true, hm, endCall, hrr, hp]

theorem as_107 (v : Value) : aTypeAssert CC (.iface 107 v) 107 true = some (.tuple ⟨[v, .bool true]⟩) := by kernel_rfl
theorem eq_20 (c : Bool) (t : TypeId) (v : Value) : aBin CC .eql 20 c (.iface t v) .nilIface = some (.bool false) := by cases c <;> kernel_rfl
theorem eq_20n (t : Tmp) : aBin CC .eql 20 (isConstO (.tmp t) || isConstO (.const .nilIface)) .nilIface .nilIface = some (.bool true) := by kernel_rfl

set_option maxRecDepth 10000 in
theorem attempt1_ok (p q : Nat) (h : Heap) (hk : HOK h) : ∃ v h', callPlain CC (Lim CC) 111 [.pointer (some ⟨p, 0, none⟩), .pointer (some ⟨q, 0, none⟩)] h none = some (.ret v h' none) ∧ h' = h := by
  refine plain_of Tryz.f111 (Q := fun _ h' => h' = h) (by kernel_rfl) rfl rfl ?_
  simp only [Tryz.f111]
  simp (maxDischargeDepth := 30) only [AMS, AMH, ↓reduceIte, Nat.reduceLT, Nat.reduceEqDiff, Nat.reduceAdd, Nat.reduceMul, reduceCtorEq, decide_true, decide_false, Nat.reduceLeDiff, Int.reduceNe, Int.reduceEq, ne_eq, not_false_eq_true, and_self, fp_107_0, ld_3, size_107, size_129, size_3, size_31, und_3, und_31, zero_107, zero_129, zero_3, zero_31, hk, O_recover0, eq_20n, Post_end]

set_option maxRecDepth 10000 in
theorem attempt1_some (p q : Nat) (i : Int) (x y : Value) (h : Heap) (hk : HOK h) (hp : h.get p = some (.row [x] 0 true)) (hq : h.get q = some (.row [y] 0 true)) (hpq : p < q) :
    ∃ v h', callPlain CC (Lim CC) 111 [.pointer (some ⟨p, 0, none⟩), .pointer (some ⟨q, 0, none⟩)] h (some (.iface 107 (.agg ⟨[.int .i64 i]⟩))) = some (.ret v h' none) ∧
      rowAt h' p = some [.int .i64 i] ∧ rowAt h' q = some [.int .i64 7] ∧ HOK h' ∧ h.next ≤ h'.next ∧ ∀ j, j < h.next → j ≠ p → j ≠ q → h'.get j = h.get j := by
  have ml := get_lt hk hp
  have mq := get_lt hk hq
  refine plain_of Tryz.f111 (Q := fun _ h' => rowAt h' p = some [.int .i64 i] ∧ rowAt h' q = some [.int .i64 7] ∧ HOK h' ∧ h.next ≤ h'.next ∧ ∀ j, j < h.next → j ≠ p → j ≠ q → h'.get j = h.get j) (by kernel_rfl) rfl rfl ?_
  simp only [Tryz.f111]
  simp (maxDischargeDepth := 30) only [AMS, AMH, ↓reduceIte, Nat.reduceLT, Nat.reduceEqDiff, Nat.reduceAdd, Nat.reduceMul, reduceCtorEq, decide_true, decide_false, Nat.reduceLeDiff, Int.reduceNe, Int.reduceEq, ne_eq, not_false_eq_true, and_self, fp_107_0, ld_3, size_107, size_129, size_3, size_31, und_3, und_31, zero_107, zero_129, zero_3, zero_31, hk, O_recover, eq_20, as_107, List.set_cons_zero]
  have f1 : Fr h ((h.alloc (.row [.int .i64 0] 0 true)).set h.next (.row [.int .i64 i] 0 true)) := ((Fr.refl hk).alloc _).set (Nat.le_refl _) (by simp) _
  generalize ((h.alloc (.row [.int .i64 0] 0 true)).set h.next (.row [.int .i64 i] 0 true)) = h1 at f1 ⊢
  have p1 := f1.get' hk hp
  have q1 := f1.get' hk hq
  have n1 := f1.next
  simp (maxDischargeDepth := 30) only [AMS, AMH, ↓reduceIte, Nat.reduceLT, Nat.reduceEqDiff, Nat.reduceAdd, Nat.reduceMul, reduceCtorEq, decide_true, decide_false, Nat.reduceLeDiff, Int.reduceNe, Int.reduceEq, ne_eq, not_false_eq_true, and_self, fp_107_0, ld_3, size_107, size_129, size_3, size_31, und_3, und_31, zero_107, zero_129, zero_3, zero_31, f1.ok, p1, List.set_cons_zero]
  have q2 : (h1.set p (.row [.int .i64 i] 0 true)).get q = some (.row [y] 0 true) := by rw [Heap.get_set_ne _ _ (by omega)]; exact q1
  simp (maxDischargeDepth := 30) only [AMS, AMH, ↓reduceIte, Nat.reduceLT, Nat.reduceEqDiff, Nat.reduceAdd, Nat.reduceMul, reduceCtorEq, decide_true, decide_false, Nat.reduceLeDiff, Int.reduceNe, Int.reduceEq, ne_eq, not_false_eq_true, and_self, fp_107_0, ld_3, size_107, size_129, size_3, size_31, und_3, und_31, zero_107, zero_129, zero_3, zero_31, q2, List.set_cons_zero, Post_end]
  refine ⟨?_, trivial, (f1.ok.set (by omega) _).set (by rw [Heap.next_set]; omega) _, by omega, fun j hj a b => ?_⟩
  · rw [rowAt_set_lt _ hpq]; exact rowAt_set_self _ _ _ _ _
  · rw [Heap.get_set_ne _ _ b, Heap.get_set_ne _ _ a]; exact f1.get j hj

/-- a call that defers one call -/
theorem callF_defer {C : Ctx} {f g : FuncId} {fn : Func} {c : Code} {args : List Value} {h h1 h2 : Heap} {r : FEnd} {s : FrS} {m : Option Value} {cap ar : List Value} {v : Value} {vs : List Value} (hA : C.A f = none) (hF : C.F.get f = some fn) (hb : fn.body = some c) (hn : Nat.ble args.length fn.ntmps = true)
    (e : Lim C none [.code c] ⟨T fn.ntmps (argsFn args), [], none⟩ h = some (r, s, h1)) (hm : endMode r = some m) (hd : s.defers = [{ target := .fn (.func g) ⟨cap⟩, args := ⟨ar⟩ }]) (hp : s.pan = none) (hg : C.A g = none)
    (e2 : callPlain C (Lim C) g (ar ++ cap) h1 m = some (.ret v h2 none)) (hr : readResults C s.tmps h2 fn.results.toList = some vs) : callF C (Lim C) f args h = some (.ret (packResults vs) h2 none) := by
  rw [callF_go args h hA hF hb (Nat.le_of_ble_eq_true hn), e]
  simp only [finish, obind_some, hm, hd]
  have : runDefers C (Lim C) [{ target := .fn (.func g) ⟨cap⟩, args := ⟨ar⟩ }] m h1 = some (none, h2) := by
    show obind (runDefer1 C (Lim C) _ m h1) _ = _
    have e3 : runDefer1 C (Lim C) { target := .fn (.func g) ⟨cap⟩, args := ⟨ar⟩ } m h1 = some (none, h2) := by
      unfold runDefer1
      simp only [hg, e2, obind_some, retOf]
    rw [e3]
    rfl
  simp only [this, obind_some, hr, hp]

set_option maxRecDepth 10000 in
set_option maxHeartbeats 1000000 in
theorem attempt_83 {g : FuncId} {caps : List Value} {P0 : Prop} {P1 : Int → Prop} {h : Heap} (hk : HOK h)
    (hg : ∀ h1, Fr h h1 → CX CC g caps h1 (fun _ h' => P0 ∧ Fr h1 h') (fun v h' => (∃ i, v = .iface 107 (.agg ⟨[.int .i64 i]⟩) ∧ P1 i) ∧ Fr h1 h')) :
    CW CC 83 [.func (.func g) ⟨[]⟩ ⟨caps⟩] h fun r h' => ((P0 ∧ r = .tuple ⟨[.int .i64 0, .int .i64 0]⟩) ∨ ∃ i, P1 i ∧ r = .tuple ⟨[.int .i64 i, .int .i64 7]⟩) ∧ Fr h h' := by
  have key : W (Lim CC none [.code Tryz.f83.body.get!] ⟨T 7 (argsFn [.func (.func g) ⟨[]⟩ ⟨caps⟩]), [], none⟩ h) fun r s h' =>
      s.defers = [{ target := .fn (.func 111) ⟨[.pointer (some ⟨h.next, 0, none⟩), .pointer (some ⟨h.next + 1, 0, none⟩)]⟩, args := ⟨[]⟩ }] ∧ s.pan = none ∧ (∃ f, s.tmps = T 7 f ∧ f 2 = .pointer (some ⟨h.next, 0, none⟩) ∧ f 3 = .pointer (some ⟨h.next + 1, 0, none⟩)) ∧
      h'.get h.next = some (.row [.int .i64 0] 0 true) ∧ h'.get (h.next + 1) = some (.row [.int .i64 0] 0 true) ∧ Fr h h' ∧
      ((r = .ended (some .ret) ∧ P0) ∨ ∃ i, r = .panic (.iface 107 (.agg ⟨[.int .i64 i]⟩)) ∧ P1 i) := by
    simp only [Tryz.f83, Option.get!]
    have f0 : Fr h ((h.alloc (.row [.int .i64 0] 0 true)).alloc (.row [.int .i64 0] 0 true)) := ((Fr.refl hk).alloc _).alloc _
    have z1 : ((h.alloc (.row [.int .i64 0] 0 true)).alloc (.row [.int .i64 0] 0 true)).get h.next = some (.row [.int .i64 0] 0 true) := by rw [get_old _ (by simp)]; exact get_at _ rfl
    have z2 : ((h.alloc (.row [.int .i64 0] 0 true)).alloc (.row [.int .i64 0] 0 true)).get (h.next + 1) = some (.row [.int .i64 0] 0 true) := get_at _ (by simp)
    have n0 : ((h.alloc (.row [.int .i64 0] 0 true)).alloc (.row [.int .i64 0] 0 true)).next = h.next + 2 := by simp
    simp (maxDischargeDepth := 30) only [AMS, AMH, ↓reduceIte, Nat.reduceLT, Nat.reduceEqDiff, Nat.reduceAdd, Nat.reduceMul, reduceCtorEq, decide_true, decide_false, Nat.reduceLeDiff, Int.reduceNe, Int.reduceEq, ne_eq, not_false_eq_true, and_self, ld_3, ld_31, size_3, size_31, und_3, und_31, zero_3, zero_31, hk, O_defer, ROr_defer, V_clo]
    generalize ((h.alloc (.row [.int .i64 0] 0 true)).alloc (.row [.int .i64 0] 0 true)) = h1 at f0 z1 z2 n0 ⊢
    refine W_callX (hg h1 f0) ?_ ?_
    · rintro v h2 ⟨p0, fr2⟩
      have f2 := f0.trans fr2
      have y1 := fr2.get' f0.ok z1
      have y2 := fr2.get' f0.ok z2
      have n2 := fr2.next
      have y3 : (h2.set h.next (.row [.int .i64 0] 0 true)).get (h.next + 1) = some (.row [.int .i64 0] 0 true) := by rw [Heap.get_set_ne _ _ (by omega)]; exact y2
      simp (maxDischargeDepth := 30) only [AMS, AMH, ↓reduceIte, Nat.reduceLT, Nat.reduceEqDiff, Nat.reduceAdd, Nat.reduceMul, reduceCtorEq, decide_true, decide_false, Nat.reduceLeDiff, Int.reduceNe, Int.reduceEq, ne_eq, not_false_eq_true, and_self, ld_3, ld_31, size_3, size_31, und_3, und_31, zero_3, zero_31, f2.ok, y1, y3, List.set_cons_zero]
      exact ⟨trivial, trivial, ⟨_, rfl, by simp [upd_at], by simp [upd_at]⟩, trivial, trivial, (f2.set (by omega) (by omega) _).set (by omega) (by rw [Heap.next_set]; omega) _, .inl ⟨trivial, p0⟩⟩
    · rintro v h2 ⟨⟨i, rfl, p1⟩, fr2⟩
      exact ⟨rfl, rfl, ⟨_, rfl, by simp [upd_at], by simp [upd_at]⟩, fr2.get' f0.ok z1, fr2.get' f0.ok z2, f0.trans fr2, .inr ⟨i, rfl, p1⟩⟩
  obtain ⟨r, s, h1, e, hd, hp, ⟨f, ht, f2, f3⟩, z1, z2, fr, hc⟩ := key
  have l1 := get_lt fr.ok z1
  have l2 := get_lt fr.ok z2
  rcases hc with ⟨rfl, p0⟩ | ⟨i, rfl, p1⟩
  · obtain ⟨v, h2, e2, rfl⟩ := attempt1_ok h.next (h.next + 1) h1 fr.ok
    have w1 : rowAt h2 h.next = some [.int .i64 0] := by unfold rowAt; rw [z1]; rfl
    have w2 : rowAt h2 (h.next + 1) = some [.int .i64 0] := by unfold rowAt; rw [z2]; rfl
    have hr : readResults CC s.tmps h2 Tryz.f83.results.toList = some [.int .i64 0, .int .i64 0] := by
      rw [ht]; simp only [Tryz.f83]; simp (maxDischargeDepth := 30) only [AMS, AMH, ↓reduceIte, Nat.reduceLT, Nat.reduceEqDiff, Nat.reduceAdd, Nat.reduceMul, reduceCtorEq, decide_true, decide_false, Nat.reduceLeDiff, Int.reduceNe, Int.reduceEq, ne_eq, not_false_eq_true, and_self, ld_3, ld_31, size_3, size_31, und_3, und_31, zero_3, zero_31, f2, f3, w1, w2]
    exact ⟨_, h2, callF_defer (fn := Tryz.f83) (c := Tryz.f83.body.get!) (by kernel_rfl) (by kernel_rfl) rfl rfl e rfl hd hp (by kernel_rfl) e2 hr, .inl ⟨p0, rfl⟩, fr⟩
  · obtain ⟨v, h2, e2, w1, w2, k2, n2, g2⟩ := attempt1_some h.next (h.next + 1) i (.int .i64 0) (.int .i64 0) h1 fr.ok z1 z2 (by omega)
    have hr : readResults CC s.tmps h2 Tryz.f83.results.toList = some [.int .i64 i, .int .i64 7] := by
      rw [ht]; simp only [Tryz.f83]; simp (maxDischargeDepth := 30) only [AMS, AMH, ↓reduceIte, Nat.reduceLT, Nat.reduceEqDiff, Nat.reduceAdd, Nat.reduceMul, reduceCtorEq, decide_true, decide_false, Nat.reduceLeDiff, Int.reduceNe, Int.reduceEq, ne_eq, not_false_eq_true, and_self, ld_3, ld_31, size_3, size_31, und_3, und_31, zero_3, zero_31, f2, f3, w1, w2]
    refine ⟨_, h2, callF_defer (fn := Tryz.f83) (c := Tryz.f83.body.get!) (by kernel_rfl) (by kernel_rfl) rfl rfl e rfl hd hp (by kernel_rfl) e2 hr, .inr ⟨i, p1, rfl⟩, k2, by have := fr.next; omega, fun j hj => ?_⟩
    rw [g2 j (by have := fr.next; omega) (by omega) (by omega)]
    exact fr.get j hj
end Go.Am

/- The abstract machine, part 91: contracts: Where, by the program and by the specification. -/
namespace Go.Am
open Go Go.Proofs

/-- the first place where two lists are not the same -/
def FirstOff (A B : List Int) (n : Int) : Prop := ∃ k : Nat, n = k ∧ k < A.length ∧ A[k]? ≠ B[k]? ∧ A.take k = B.take k
theorem FirstOff.uniq {A B : List Int} {n m : Int} (h : FirstOff A B n) (h' : FirstOff A B m) : n = m := by
  obtain ⟨k, rfl, h1, h2, h3⟩ := h
  obtain ⟨j, rfl, g1, g2, g3⟩ := h'
  have key : ∀ (x y : Nat), A.take y = B.take y → x < y → A[x]? = B[x]? := fun x y e hxy => by
    have := congrArg (·[x]?) e
    simpa [List.getElem?_take, hxy] using this
  by_cases c1 : k < j
  · exact absurd (key k j g3 c1) h2
  · by_cases c2 : j < k
    · exact absurd (key j k h3 c2) g2
    · omega
theorem FirstOff.ne {A B : List Int} {n : Int} (h : FirstOff A B n) : A ≠ B := by
  obtain ⟨k, _, _, h2, _⟩ := h
  exact fun e => h2 (by rw [e])

set_option maxRecDepth 10000 in
set_option maxHeartbeats 4000000 in
theorem where1_84 {h1 : Heap} (hk : HOK h1) (hp : 0 < h1.next) {a b c v : Value} {s : Sheet} {l : List Int} {i j q0 q1 q2 q3 : Nat} {T U : Tar} (hs : IsSheet h1 a b c s) (hv : LS h1 v l ints 1) (ok : s.ok = true) (hl : hoursOK s.boards l = true) (hT : s.tars[i]? = some T) (hU : s.tars[j]? = some U)
    (r0 : rowAt h1 q0 = some [a, b, c]) (r1 : rowAt h1 q1 = some [v]) (r2 : rowAt h1 q2 = some [.int .i64 i]) (r3 : rowAt h1 q3 = some [.int .i64 j]) :
    CX CC 84 [.pointer (some ⟨q0, 0, none⟩), .pointer (some ⟨q1, 0, none⟩), .pointer (some ⟨q2, 0, none⟩), .pointer (some ⟨q3, 0, none⟩)] h1 (fun _ h' => parts T s.boards l = parts U s.boards l ∧ Fr h1 h')
      (fun v h' => (∃ n, v = .iface 107 (.agg ⟨[.int .i64 n]⟩) ∧ FirstOff (parts T s.boards l) (parts U s.boards l) n) ∧ Fr h1 h') := by
  have hlen := Sheet.ok_len ok
  have hil := (List.getElem?_eq_some_iff.1 hT).1
  have hjl := (List.getElem?_eq_some_iff.1 hU).1
  have hll := (hoursOK_at hl).1
  have tok := Sheet.ok_tars ok T (List.mem_of_getElem? hT)
  have uok := Sheet.ok_tars ok U (List.mem_of_getElem? hU)
  have hqT := qtys_b ok hl T
  have hqU := qtys_b ok hl U
  have hs' := hs
  obtain ⟨p3, c3, rfl, x3⟩ := hs.tars.open
  obtain ⟨bt, ot, spt, rowt, hp3, rrt, et⟩ := LS.at (n := 0) (c := 0) x3 hT
  obtain ⟨bu, ou, spu, rowu, hp3', rru, eu⟩ := LS.at (n := 0) (c := 0) x3 hU
  subst hp3
  simp only [Option.some.injEq, Addr.mk.injEq] at hp3'
  obtain ⟨rfl, rfl, rfl⟩ := hp3'
  rw [rrt] at rru
  obtain rfl : rowt = rowu := by simpa using rru
  obtain ⟨p1, c1, rfl, _⟩ := hs.offs.open
  obtain ⟨p2, c2, rfl, _⟩ := hs.boards.open
  obtain ⟨p4, c4, rfl, _⟩ := hv.open
  have kct : T.cells.all selfC = true := rfl
  have kcu : U.cells.all selfC = true := rfl
  refine CX_in Tryz.f84 (by kernel_rfl) (by kernel_rfl) rfl rfl ?_
  simp only [Tryz.f84]
  simp (maxDischargeDepth := 30) only [AMS, AMH, ↓reduceIte, Nat.reduceLT, Nat.reduceEqDiff, Nat.reduceAdd, Nat.reduceMul, reduceCtorEq, decide_true, decide_false, Nat.reduceLeDiff, Int.reduceNe, Int.reduceEq, ne_eq, not_false_eq_true, and_self, bld_107, fld_107_0, fp_26_2, ix_22, ix_24, ld_22, ld_24, ld_26, ld_3, ld_41, ld_94, len_22, mi_107, part_3, part_41, size_107, size_22, size_24, size_3, size_41, size_94, sp_107_0, und_22, und_24, zero_107, zero_22, zero_24, zero_94, hk, r0, r1]
  refine W_call (bill_72 hk hs' hv) ?_
  rintro bv h2 ⟨m, fr2, hm2, hb2, hmap⟩
  have k2 := fr2.ok
  obtain ⟨a', b', c', d', rfl, hsh2, hh2⟩ := hb2.ex
  obtain ⟨pa, ca, rfl, _⟩ := hsh2.offs.open
  obtain ⟨pb, cb, rfl, _⟩ := hsh2.boards.open
  obtain ⟨pc, cc, rfl, _⟩ := hsh2.tars.open
  obtain ⟨pd, cd, rfl, _⟩ := hh2.open
  simp (maxDischargeDepth := 30) only [AMS, AMH, ↓reduceIte, Nat.reduceLT, Nat.reduceEqDiff, Nat.reduceAdd, Nat.reduceMul, reduceCtorEq, decide_true, decide_false, Nat.reduceLeDiff, Int.reduceNe, Int.reduceEq, ne_eq, not_false_eq_true, and_self, bld_107, fld_107_0, fp_26_2, ix_22, ix_24, ld_22, ld_24, ld_26, ld_3, ld_41, ld_94, len_22, mi_107, part_3, part_41, size_107, size_22, size_24, size_3, size_41, size_94, sp_107_0, und_22, und_24, zero_107, zero_22, zero_24, zero_94, k2]
  have f23 : Fr h2 ((h2.alloc (.row [.slice none 0 0, .slice none 0 0, .slice none 0 0, .slice none 0 0, .map none] 0 true)).set h2.next (.row [.slice pa s.offs.length ca, .slice pb s.boards.length cb, .slice pc s.tars.length cc, .slice pd l.length cd, .map (some m)] 0 true)) := ((Fr.refl k2).alloc _).set (Nat.le_refl _) (by simp) _
  have x3' : rowAt ((h2.alloc (.row [.slice none 0 0, .slice none 0 0, .slice none 0 0, .slice none 0 0, .map none] 0 true)).set h2.next (.row [.slice pa s.offs.length ca, .slice pb s.boards.length cb, .slice pc s.tars.length cc, .slice pd l.length cd, .map (some m)] 0 true)) h2.next = some [.slice pa s.offs.length ca, .slice pb s.boards.length cb, .slice pc s.tars.length cc, .slice pd l.length cd, .map (some m)] := rowAt_set_self _ _ _ _ _
  generalize ((h2.alloc (.row [.slice none 0 0, .slice none 0 0, .slice none 0 0, .slice none 0 0, .map none] 0 true)).set h2.next (.row [.slice pa s.offs.length ca, .slice pb s.boards.length cb, .slice pc s.tars.length cc, .slice pd l.length cd, .map (some m)] 0 true)) = h3 at f23 x3' ⊢
  have f3 := fr2.trans f23
  have k3 := f3.ok
  have s0 := f3.row' hk r0
  have s2 := f3.row' hk r2
  have s3 := f3.row' hk r3
  have st := f3.row' hk rrt
  have hb3 := hb2.fr k2 f23
  have hm3 := hmap.fr k2 f23
  refine W_draw [(true, 0), (true, 1), (true, 2), (true, 3), (true, 4), (true, 5), (true, 6), (true, 7)] (by kernel_rfl) ?_
  simp (maxDischargeDepth := 30) only [AMS, AMH, ↓reduceIte, Nat.reduceLT, Nat.reduceEqDiff, Nat.reduceAdd, Nat.reduceMul, reduceCtorEq, decide_true, decide_false, Nat.reduceLeDiff, Int.reduceNe, Int.reduceEq, ne_eq, not_false_eq_true, and_self, bld_107, fld_107_0, fp_26_2, ix_22, ix_24, ld_22, ld_24, ld_26, ld_3, ld_41, ld_94, len_22, mi_107, part_3, part_41, size_107, size_22, size_24, size_3, size_41, size_94, sp_107_0, und_22, und_24, zero_107, zero_22, zero_24, zero_94, k3, x3', s0, s2, hil, st, et]
  refine W_callP (parts_75 (t := T) k3 (by have := f3.next; omega) hb3 hm3 tok hll (by omega) fun x hx => by have := hqT x hx; omega) ?_
  rintro A h4 ⟨qA, F4⟩
  have R4 := F4.rk k3 hm3
  have k4 := F4.ok
  have t0 := R4.rowAt s0
  have t2 := R4.rowAt s2
  have t3 := R4.rowAt s3
  have tt := R4.rowAt st
  have tx := R4.rowAt x3'
  have hb4 := hb3.rk R4
  obtain ⟨pA, cA, rfl⟩ := qA.value
  simp (maxDischargeDepth := 30) only [AMS, AMH, ↓reduceIte, Nat.reduceLT, Nat.reduceEqDiff, Nat.reduceAdd, Nat.reduceMul, reduceCtorEq, decide_true, decide_false, Nat.reduceLeDiff, Int.reduceNe, Int.reduceEq, ne_eq, not_false_eq_true, and_self, AMR, bld_107, fld_107_0, fp_26_2, ix_22, ix_24, ld_22, ld_24, ld_26, ld_3, ld_41, ld_94, len_22, mi_107, part_3, part_41, size_107, size_22, size_24, size_3, size_41, size_94, sp_107_0, und_22, und_24, zero_107, zero_22, zero_24, zero_94, k4, tx, t0, t2, hil, tt, et, kct]
  refine W_draw [(true, 0), (true, 1), (true, 2), (true, 3), (true, 4), (true, 5), (true, 6), (true, 7)] (by kernel_rfl) ?_
  simp (maxDischargeDepth := 30) only [AMS, AMH, ↓reduceIte, Nat.reduceLT, Nat.reduceEqDiff, Nat.reduceAdd, Nat.reduceMul, reduceCtorEq, decide_true, decide_false, Nat.reduceLeDiff, Int.reduceNe, Int.reduceEq, ne_eq, not_false_eq_true, and_self, bld_107, fld_107_0, fp_26_2, ix_22, ix_24, ld_22, ld_24, ld_26, ld_3, ld_41, ld_94, len_22, mi_107, part_3, part_41, size_107, size_22, size_24, size_3, size_41, size_94, sp_107_0, und_22, und_24, zero_107, zero_22, zero_24, zero_94, k4, tx, t0, t3, hjl, tt, eu]
  refine W_callP (parts_75 (t := U) k4 (by have := F4.next; have := f3.next; omega) hb4 F4.map uok hll (by omega) fun x hx => by have := hqU x hx; omega) ?_
  rintro B h5 ⟨qB, F5⟩
  have R5 := F5.rk k4 F4.map
  have k5 := F5.ok
  have u0 := R5.rowAt t0
  have u3 := R5.rowAt t3
  have ut := R5.rowAt tt
  have ux := R5.rowAt tx
  obtain ⟨pB, cB, rfl⟩ := qB.value
  have fin : Fr h1 h5 := (F4.trans F5).fr f3 hm2
  have lA := parts_len (t := T) hll
  have lB := parts_len (t := U) hll
  have LA : LS h5 (.slice pA s.boards.length cA) (parts T s.boards l) ints 1 := SL.ls ints_len (by rw [lA]; exact qA.rk R5)
  have LB : LS h5 (.slice pB s.boards.length cB) (parts U s.boards l) ints 1 := SL.ls ints_len (by rw [lB]; exact qB)
  simp (maxDischargeDepth := 30) only [AMS, AMH, ↓reduceIte, Nat.reduceLT, Nat.reduceEqDiff, Nat.reduceAdd, Nat.reduceMul, reduceCtorEq, decide_true, decide_false, Nat.reduceLeDiff, Int.reduceNe, Int.reduceEq, ne_eq, not_false_eq_true, and_self, AMR, bld_107, fld_107_0, fp_26_2, ix_22, ix_24, ld_22, ld_24, ld_26, ld_3, ld_41, ld_94, len_22, mi_107, part_3, part_41, size_107, size_22, size_24, size_3, size_41, size_94, sp_107_0, und_22, und_24, zero_107, zero_22, zero_24, zero_94, k5, ux, u0, u3, hjl, ut, eu, kcu]
  refine W_loop s.boards.length (fun m' f h' => ∃ k, k ≤ s.boards.length ∧ m' = s.boards.length - k ∧ f 5 = .slice pA s.boards.length cA ∧ f 6 = .slice pB s.boards.length cB ∧ f 26 = .int .i64 s.boards.length ∧ f 27 = .int .i64 k ∧ (parts T s.boards l).take k = (parts U s.boards l).take k ∧ h' = h5)
    ⟨0, by omega, by omega, by simp [upd_at], by simp [upd_at], by simp [upd_at], by simp [upd_at], by simp, rfl⟩ ?_
  rintro m' f h' ⟨k, hk', rfl, g5, g6, g26, g27, ht, rfl⟩ ih
  by_cases hkl : k < s.boards.length
  · obtain ⟨x, gx⟩ : ∃ x, (parts T s.boards l)[k]? = some x := ⟨_, List.getElem?_eq_getElem (by omega)⟩
    obtain ⟨y, gy⟩ : ∃ y, (parts U s.boards l)[k]? = some y := ⟨_, List.getElem?_eq_getElem (by omega)⟩
    obtain ⟨b5, o5, sp5, row5, rfl, rr5, e5⟩ := LA.cell gx
    obtain ⟨b6, o6, sp6, row6, rfl, rr6, e6⟩ := LB.cell gy
    simp (maxDischargeDepth := 30) only [AMS, AMH, ↓reduceIte, Nat.reduceLT, Nat.reduceEqDiff, Nat.reduceAdd, Nat.reduceMul, reduceCtorEq, decide_true, decide_false, Nat.reduceLeDiff, Int.reduceNe, Int.reduceEq, ne_eq, not_false_eq_true, and_self, bld_107, fld_107_0, fp_26_2, ix_22, ix_24, ld_22, ld_24, ld_26, ld_3, ld_41, ld_94, len_22, mi_107, part_3, part_41, size_107, size_22, size_24, size_3, size_41, size_94, sp_107_0, und_22, und_24, zero_107, zero_22, zero_24, zero_94, k5, g5, g6, g26, g27, lt_t hkl]
    refine W_draw [(true, 0), (true, 1), (true, 2), (true, 3), (true, 4), (true, 5), (true, 6), (true, 7), (true, 8)] (by kernel_rfl) ?_
    cases hxy : (x != y) with
    | true =>
      simp (maxDischargeDepth := 30) only [AMS, AMH, ↓reduceIte, Nat.reduceLT, Nat.reduceEqDiff, Nat.reduceAdd, Nat.reduceMul, reduceCtorEq, decide_true, decide_false, Nat.reduceLeDiff, Int.reduceNe, Int.reduceEq, ne_eq, not_false_eq_true, and_self, AMR, bld_107, fld_107_0, fp_26_2, ix_22, ix_24, ld_22, ld_24, ld_26, ld_3, ld_41, ld_94, len_22, mi_107, part_3, part_41, size_107, size_22, size_24, size_3, size_41, size_94, sp_107_0, und_22, und_24, zero_107, zero_22, zero_24, zero_94, k5, g5, g6, g26, g27, hkl, Nat.mul_one, rr5, rr6, e5, e6, hxy, O_panic, ROr_panic, PostX_panic]
      refine ⟨⟨_, rfl, k, rfl, by omega, ?_, ht⟩, fin⟩
      rw [gx, gy]
      simpa using hxy
    | false =>
      have hxy' : x = y := by simpa using hxy
      simp (maxDischargeDepth := 30) only [AMS, AMH, ↓reduceIte, Nat.reduceLT, Nat.reduceEqDiff, Nat.reduceAdd, Nat.reduceMul, reduceCtorEq, decide_true, decide_false, Nat.reduceLeDiff, Int.reduceNe, Int.reduceEq, ne_eq, not_false_eq_true, and_self, AMR, bld_107, fld_107_0, fp_26_2, ix_22, ix_24, ld_22, ld_24, ld_26, ld_3, ld_41, ld_94, len_22, mi_107, part_3, part_41, size_107, size_22, size_24, size_3, size_41, size_94, sp_107_0, und_22, und_24, zero_107, zero_22, zero_24, zero_94, k5, g5, g6, g26, g27, hkl, Nat.mul_one, rr5, rr6, e5, e6, hxy, i_next hkl (by omega : s.boards.length ≤ 1000)]
      refine ih (s.boards.length - (k + 1)) _ _ (by omega) ?_
      exact ⟨k + 1, by omega, rfl, by simp [upd_at, g5], by simp [upd_at, g6], by simp [upd_at, g26], by simp [upd_at], by rw [take_snoc gx, take_snoc gy, ht, hxy'], rfl⟩
  · have : k = s.boards.length := by omega
    subst this
    simp (maxDischargeDepth := 30) only [AMS, AMH, ↓reduceIte, Nat.reduceLT, Nat.reduceEqDiff, Nat.reduceAdd, Nat.reduceMul, reduceCtorEq, decide_true, decide_false, Nat.reduceLeDiff, Int.reduceNe, Int.reduceEq, ne_eq, not_false_eq_true, and_self, bld_107, fld_107_0, fp_26_2, ix_22, ix_24, ld_22, ld_24, ld_26, ld_3, ld_41, ld_94, len_22, mi_107, part_3, part_41, size_107, size_22, size_24, size_3, size_41, size_94, sp_107_0, und_22, und_24, zero_107, zero_22, zero_24, zero_94, k5, g26, g27, lt_f, PostX_end]
    refine ⟨?_, fin⟩
    rwa [List.take_of_length_le (by omega), List.take_of_length_le (by omega)] at ht
end Go.Am
