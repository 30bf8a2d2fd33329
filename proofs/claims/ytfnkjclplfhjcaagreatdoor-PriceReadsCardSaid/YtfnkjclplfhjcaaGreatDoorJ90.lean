/- Parts 90 of the abstract machine over this program, joined: what each part says stands at its head. -/
import Derived.Test.YtfnkjclplfhjcaaGreatDoorJ52
set_option linter.unusedSimpArgs false
set_option linter.unusedVariables false
/- The abstract machine, part 90: panics, what is deferred, and recover, in equations; attempt. -/
namespace Go.Am
open Go Go.Proofs
theorem F111_Am90 : type_of% (And.intro @fp_107_0 <| And.intro @ld_3 <| And.intro @size_107 <| And.intro @size_129 <| And.intro @size_3 <| And.intro @size_31 <| And.intro @und_3 <| And.intro @und_31 <| And.intro @zero_107 <| And.intro @zero_129 <| And.intro @zero_3 @zero_31) := And.intro @fp_107_0 <| And.intro @ld_3 <| And.intro @size_107 <| And.intro @size_129 <| And.intro @size_3 <| And.intro @size_31 <| And.intro @und_3 <| And.intro @und_31 <| And.intro @zero_107 <| And.intro @zero_129 <| And.intro @zero_3 @zero_31

section
variable {C : Ctx} {rd : Option Nat} {ops l : List Oper} {k : List Item} {s : FrS} {h : Heap} {dst : Option Tmp} {ty : TypeId} {pos : String} {aft : Array Edge}
theorem O_panic (x : Operand) : RO C rd ops (⟨dst, .panic x, ty, pos, aft, none⟩ :: l) k s h = ROr C rd ops l k (panicOp s h (ev s.tmps x)) := RO_eff _ rfl
theorem ROr_panic (t : TypeId) (v : Value) : ROr C rd ops l k (panicOp s h (.iface t v)) = some (.panic (.iface t v), s, h) := rfl
theorem O_defer (f : Operand) (xs : List Operand) (ts : Array TypeId) : RO C none ops (⟨dst, .defer ⟨.value f, ⟨xs⟩, ts⟩, ty, pos, aft, none⟩ :: l) k s h = ROr C none ops l k (deferVal dst (xs.map (ev s.tmps)) s h (ev s.tmps f)) := RO_eff _ rfl
theorem ROr_defer (fn : Fn) (first cap : List Value) (args : List Value) : ROr C rd ops l k (deferVal none args s h (.func fn ⟨first⟩ ⟨cap⟩)) = RO C rd ops l k ⟨s.tmps, { target := .fn fn ⟨cap⟩, args := ⟨first ++ args⟩ } :: s.defers, s.pan⟩ h := rfl
theorem O_recover {d n : Nat} {f : Nat → Value} {D : List Deferred} (v : Value) (ts : Array TypeId) : RO C none ops (⟨some d, .call ⟨.builtin .recover, ⟨[]⟩, ts⟩, ty, pos, aft, none⟩ :: l) k ⟨T n f, D, some v⟩ h = RO C none ops l k ⟨T n (upd f d v), D, none⟩ h := by
  rw [RO_eff _ rfl]
  show ROr C none ops l k (some (.ok ⟨(FrS.put ⟨T n f, D, some v⟩ (some d) v).tmps, D, none⟩ h)) = _
  rw [P_some]; rfl
theorem O_recover0 {d n : Nat} {f : Nat → Value} {D : List Deferred} (ts : Array TypeId) : RO C none ops (⟨some d, .call ⟨.builtin .recover, ⟨[]⟩, ts⟩, ty, pos, aft, none⟩ :: l) k ⟨T n f, D, none⟩ h = RO C none ops l k ⟨T n (upd f d .nilIface), D, none⟩ h := by
  rw [RO_eff _ rfl]
  show ROr C none ops l k (some (.ok (FrS.put ⟨T n f, D, none⟩ (some d) .nilIface) h)) = _
  rw [P_some]; rfl
end

theorem Post_end (C : Ctx) (rs : List ResultVar) (Q : Value → Heap → Prop) (n : Nat) (f : Nat → Value) (h : Heap) : Post C rs Q (.ended none) ⟨T n f, [], none⟩ h ↔ PR Q h (readResults C (T n f) h rs) := by
  simp [Post]

/-- a call comes out, or panics -/
def CX (C : Ctx) (f : FuncId) (args : List Value) (h : Heap) (Q R : Value → Heap → Prop) : Prop :=
  (∃ v h', callF C (Lim C) f args h = some (.ret v h' none) ∧ Q v h') ∨ ∃ v h', callF C (Lim C) f args h = some (.panic v h') ∧ R v h'
def PostX (C : Ctx) (rs : List ResultVar) (Q R : Value → Heap → Prop) (r : FEnd) (s : FrS) (h' : Heap) : Prop := Post C rs Q r s h' ∨ ∃ v, r = .panic v ∧ s.defers = [] ∧ R v h'
theorem PostX_ret (C : Ctx) (rs : List ResultVar) (Q R : Value → Heap → Prop) (n : Nat) (f : Nat → Value) (h : Heap) : PostX C rs Q R (.ended (some .ret)) ⟨T n f, [], none⟩ h ↔ PR Q h (readResults C (T n f) h rs) := by
  simp [PostX, Post_ret]
theorem PostX_end (C : Ctx) (rs : List ResultVar) (Q R : Value → Heap → Prop) (n : Nat) (f : Nat → Value) (h : Heap) : PostX C rs Q R (.ended none) ⟨T n f, [], none⟩ h ↔ PR Q h (readResults C (T n f) h rs) := by
  simp [PostX, Post_end]
theorem PostX_panic (C : Ctx) (rs : List ResultVar) (Q R : Value → Heap → Prop) (v : Value) (n : Nat) (f : Nat → Value) (p : Option Value) (h : Heap) : PostX C rs Q R (.panic v) ⟨T n f, [], p⟩ h ↔ R v h := by
  simp [PostX, Post]

theorem CX_in {C : Ctx} {f : FuncId} (fn : Func) {c : Code} {args : List Value} {h : Heap} {Q R : Value → Heap → Prop} (hA : C.A f = none) (hF : C.F.get f = some fn) (hb : fn.body = some c) (hn : Nat.ble args.length fn.ntmps = true)
    (hw : W (Lim C none [.code c] ⟨T fn.ntmps (argsFn args), [], none⟩ h) (PostX C fn.results.toList Q R)) : CX C f args h Q R := by
  obtain ⟨r, s, h', e, hp | ⟨v, rfl, hd, hR⟩⟩ := hw
  · obtain ⟨v, h1, e1, q⟩ := CW_in (Q := Q) fn hA hF hb hn ⟨r, s, h', e, hp⟩
    exact .inl ⟨v, h1, e1, q⟩
  · refine .inr ⟨v, h', ?_, hR⟩
    rw [callF_go args h hA hF hb (Nat.le_of_ble_eq_true hn), e]
    simp only [finish, obind_some, endMode, hd]
    rfl

theorem W_callX {C : Ctx} {rd : Option Nat} {ops l : List Oper} {k : List Item} {dst : Option Tmp} {s : FrS} {h : Heap} {Q : FEnd → FrS → Heap → Prop} {f : FuncId} {args : List Value} {P R : Value → Heap → Prop}
    (hc : CX C f args h P R) (hw : ∀ v h', P v h' → W (RO C rd ops l k (s.put dst v) h') Q) (hr : ∀ v h', R v h' → Q (.panic v) s h') : W (ROc C rd ops l k dst s (callF C (Lim C) f args h)) Q := by
  rcases hc with ⟨v, h', e, hp⟩ | ⟨v, h', e, hp⟩
  · rw [e, ROc_ret]; exact hw v h' hp
  · rw [e, ROc_panic]; exact ⟨_, _, _, rfl, hr v h' hp⟩

/-- a deferred call -/
theorem plain_of {C : Ctx} {g : FuncId} (fn : Func) {c : Code} {args : List Value} {pan : Option Value} {h : Heap} {Q : Value → Heap → Prop} (hF : C.F.get g = some fn) (hb : fn.body = some c) (hn : Nat.ble args.length fn.ntmps = true)
    (hw : W (Lim C none [.code c] ⟨T fn.ntmps (argsFn args), [], pan⟩ h) (Post C fn.results.toList Q)) : ∃ v h', callPlain C (Lim C) g args h pan = some (.ret v h' none) ∧ Q v h' := by
  obtain ⟨r, s, h', e, hr, hd, hp, hq⟩ := hw
  have hm : endMode r = some none := by rcases hr with rfl | rfl <;> rfl
  revert hq
  cases hrr : readResults C s.tmps h' fn.results.toList with
  | none => exact fun h => h.elim
  | some vs =>
    intro hq
    refine ⟨packResults vs, h', ?_, hq⟩
    unfold callPlain
    rw [hF]
    simp only [obind_some, bodyOf, hb, mkTmps_T args fn.ntmps (Nat.le_of_ble_eq_true hn), e, hd, noDefers, guardB_true, hm, endCall, hrr, hp]

theorem eq_20 (c : Bool) (t : TypeId) (v : Value) : aBin CC .eql 20 c (.iface t v) .nilIface = some (.bool false) := by cases c <;> kernel_rfl
theorem eq_20n (t : Tmp) : aBin CC .eql 20 (isConstO (.tmp t) || isConstO (.const .nilIface)) .nilIface .nilIface = some (.bool true) := by kernel_rfl

set_option maxRecDepth 10000 in
theorem attempt1_ok (p q : Nat) (h : Heap) (hk : HOK h) : ∃ v h', callPlain CC (Lim CC) 111 [.pointer (some ⟨p, 0, none⟩), .pointer (some ⟨q, 0, none⟩)] h none = some (.ret v h' none) ∧ h' = h := by
  refine plain_of Tryz.f111 (Q := fun _ h' => h' = h) (by kernel_rfl) rfl rfl ?_
  simp only [Tryz.f111]
  simp (maxDischargeDepth := 30) only [AMS, AMH, ↓reduceIte, Nat.reduceLT, Nat.reduceEqDiff, Nat.reduceAdd, Nat.reduceMul, reduceCtorEq, decide_true, decide_false, Nat.reduceLeDiff, Int.reduceNe, Int.reduceEq, ne_eq, not_false_eq_true, and_self, F111_Am90, hk, O_recover0, eq_20n, Post_end]

/-- a call that defers one call -/
theorem callF_defer {C : Ctx} {f g : FuncId} {fn : Func} {c : Code} {args : List Value} {h h1 h2 : Heap} {r : FEnd} {s : FrS} {m : Option Value} {cap ar : List Value} {v : Value} {vs : List Value} (hA : C.A f = none) (hF : C.F.get f = some fn) (hb : fn.body = some c) (hn : Nat.ble args.length fn.ntmps = true)
    (e : Lim C none [.code c] ⟨T fn.ntmps (argsFn args), [], none⟩ h = some (r, s, h1)) (hm : endMode r = some m) (hd : s.defers = [{ target := .fn (.func g) ⟨cap⟩, args := ⟨ar⟩ }]) (hp : s.pan = none) (hg : C.A g = none)
    (e2 : callPlain C (Lim C) g (ar ++ cap) h1 m = some (.ret v h2 none)) (hr : readResults C s.tmps h2 fn.results.toList = some vs) : callF C (Lim C) f args h = some (.ret (packResults vs) h2 none) := by
  rw [callF_go args h hA hF hb (Nat.le_of_ble_eq_true hn), e]
  simp only [finish, obind_some, hm, hd]
  have : runDefers C (Lim C) [{ target := .fn (.func g) ⟨cap⟩, args := ⟨ar⟩ }] m h1 = some (none, h2) := by
    show obind (runDefer1 C (Lim C) _ m h1) _ = _
    have e3 : runDefer1 C (Lim C) { target := .fn (.func g) ⟨cap⟩, args := ⟨ar⟩ } m h1 = some (none, h2) := by
      unfold runDefer1
      simp only [hg, e2, obind_some, retOf]
    rw [e3]
    rfl
  simp only [this, obind_some, hr, hp]

end Go.Am
