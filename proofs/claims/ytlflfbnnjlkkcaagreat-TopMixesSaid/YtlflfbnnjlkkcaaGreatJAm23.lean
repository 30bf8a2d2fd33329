/- Parts Am23, Am24, Am25, Am26 of the abstract machine over this program, joined: what each part says stands at its head. -/
import Derived.Test.YtlflfbnnjlkkcaaGreatJAm20
import Derived.Orders
set_option linter.unusedSimpArgs false
set_option linter.unusedVariables false
/- The abstract machine, part 23: an effect depends on its operands alone; the trace of a plan. -/
namespace Go.Am
open Go

noncomputable def putA (τ : List (List Value)) (dst : Option Tmp) (v : Value) : List (List Value) :=
  match dst with
  | some d => tset τ d v
  | none => τ

theorem put_eq (τ : List (List Value)) (D : List Deferred) (p : Option Value) (dst : Option Tmp) (v : Value) : FrS.put ⟨τ, D, p⟩ dst v = ⟨putA τ dst v, D, p⟩ := by cases dst <;> rfl
theorem put_eq' (s : FrS) (dst : Option Tmp) (v : Value) : s.put dst v = ⟨putA s.tmps dst v, s.defers, s.pan⟩ := by cases dst <;> rfl

section
variable {C : Ctx} {self : Self} {rd : Option Nat}

/-- an outcome that puts one value -/
def Puts (τ τ' : List (List Value)) (dst : Option Tmp) (r r' : Option ORes) : Prop :=
  ∀ s' h', r = some (.ok s' h') → ∃ v D p, s' = ⟨putA τ dst v, D, p⟩ ∧ r' = some (.ok ⟨putA τ' dst v, D, p⟩ h')

theorem puts_ofRes {τ τ' : List (List Value)} {D : List Deferred} {p : Option Value} {dst : Option Tmp} (o : Option FRes) : Puts τ τ' dst (obind o (ofRes ⟨τ, D, p⟩ dst)) (obind o (ofRes ⟨τ', D, p⟩ dst)) := by
  intro s' h' h
  cases o with
  | none => simp at h
  | some r =>
    cases r with
    | panic v h1 => simp [ofRes] at h
    | ret v h1 q =>
      simp only [obind_some, ofRes, put_eq] at h ⊢
      simp at h
      obtain ⟨rfl, rfl⟩ := h
      exact ⟨v, D, p, rfl, rfl⟩

theorem puts_ofVal {τ τ' : List (List Value)} {D : List Deferred} {p : Option Value} {dst : Option Tmp} (o : Option (Value × Heap)) : Puts τ τ' dst (obind o (ofVal ⟨τ, D, p⟩ dst)) (obind o (ofVal ⟨τ', D, p⟩ dst)) := by
  intro s' h' h
  cases o with
  | none => simp at h
  | some q =>
    simp only [obind_some, ofVal, put_eq] at h ⊢
    simp at h
    obtain ⟨rfl, rfl⟩ := h
    exact ⟨q.1, D, p, rfl, rfl⟩

theorem puts_ofHeap {τ τ' : List (List Value)} {D : List Deferred} {p : Option Value} {dst : Option Tmp} (o : Option Heap) : Puts τ τ' dst (obind o (ofHeap ⟨τ, D, p⟩ dst)) (obind o (ofHeap ⟨τ', D, p⟩ dst)) := by
  intro s' h' h
  cases o with
  | none => simp at h
  | some q =>
    simp only [obind_some, ofHeap, put_eq] at h ⊢
    simp at h
    obtain ⟨rfl, rfl⟩ := h
    exact ⟨undef, D, p, rfl, rfl⟩

theorem puts_some {τ τ' : List (List Value)} {D : List Deferred} {p : Option Value} {dst : Option Tmp} (v : Value) (h : Heap) : Puts τ τ' dst (some (.ok (FrS.put ⟨τ, D, p⟩ dst v) h)) (some (.ok (FrS.put ⟨τ', D, p⟩ dst v) h)) := by
  intro s' h' hh
  simp only [put_eq] at hh ⊢
  simp at hh
  obtain ⟨rfl, rfl⟩ := hh
  exact ⟨v, D, p, rfl, rfl⟩

theorem puts_none {τ τ' : List (List Value)} {dst : Option Tmp} {r' : Option ORes} : Puts τ τ' dst none r' := by intro s' h' h; simp at h

theorem eff_local {τ τ' : List (List Value)} {D : List Deferred} {p : Option Value} {dst : Option Tmp} {h : Heap} {op : Op} (hx : ∀ x ∈ op.operands.toList, ev τ x = ev τ' x) :
    Puts τ τ' dst (effOp C self rd dst ⟨τ, D, p⟩ h op) (effOp C self rd dst ⟨τ', D, p⟩ h op) := by
  cases op <;> try exact puts_none
  case store t a v =>
    simp only [effOp]
    rw [← hx a (by simp [Op.operands]), ← hx v (by simp [Op.operands])]
    exact puts_ofHeap _
  case mapUpdate t m k v =>
    simp only [effOp]
    rw [← hx m (by simp [Op.operands]), ← hx k (by simp [Op.operands]), ← hx v (by simp [Op.operands])]
    exact puts_ofHeap _
  case insert t m k v =>
    simp only [effOp]
    rw [← hx m (by simp [Op.operands]), ← hx k (by simp [Op.operands]), ← hx v (by simp [Op.operands])]
    exact puts_ofHeap _
  case range t x =>
    simp only [effOp]
    rw [← hx x (by simp [Op.operands])]
    unfold rangeOp
    split
    · cases C.und t with
      | none => exact puts_none
      | some d =>
        simp only [obind_some]
        cases isStringD d
        · exact puts_none
        · exact puts_some _ _
    · exact puts_none
  case next it b =>
    simp only [effOp]
    rw [← hx it (by simp [Op.operands])]
    cases b
    · exact puts_none
    · exact puts_ofVal _
  case panic x =>
    intro s' h' hh
    simp only [effOp] at hh
    unfold panicOp at hh
    split at hh <;> simp at hh
  case defer c =>
    simp only [effOp, deferOp]
    cases rd with
    | some l => exact puts_none
    | none =>
      cases hc : c.callee with
      | value f =>
        simp only
        have hf := hx f (by simp [Op.operands, Call.operands, hc])
        have ha : c.args.toList.map (ev τ) = c.args.toList.map (ev τ') := List.map_congr_left fun x hxx => hx x (by simp [Op.operands, Call.operands]; right; simpa using hxx)
        rw [← hf, ← ha]
        unfold deferVal
        split
        · intro s' h' hh
          simp only [put_eq] at hh ⊢
          simp at hh
          obtain ⟨rfl, rfl⟩ := hh
          exact ⟨undef, _, p, rfl, rfl⟩
        · exact puts_none
      | _ => exact puts_none
  case call c =>
    have ha : c.args.toList.map (ev τ) = c.args.toList.map (ev τ') := List.map_congr_left fun x hxx => hx x (by simp [Op.operands, Call.operands]; right; simpa using hxx)
    simp only [effOp, callOp]
    cases hc : c.callee with
    | value f =>
      simp only
      rw [← hx f (by simp [Op.operands, Call.operands, hc]), ← ha]
      unfold callVal
      split
      · exact puts_ofRes _
      · exact puts_none
    | invoke r name =>
      simp only
      rw [← hx r (by simp [Op.operands, Call.operands, hc]), ← ha]
      exact puts_ofRes _
    | builtin b =>
      simp only
      rw [← ha]
      cases b <;> simp only [callBuiltin] <;> try exact puts_none
      case append => split <;> first | exact puts_ofVal _ | exact puts_none
      case copy => split <;> first | exact puts_ofVal _ | exact puts_none
      case delete =>
        split
        · rename_i t ts x y l e1 e2
          cases aDelete C t x y h with
          | none => exact puts_none
          | some h1 => exact puts_some _ _
        · exact puts_none
      case recover =>
        unfold recoverOp
        cases rd with
        | some l => exact puts_none
        | none =>
          cases p with
          | none => exact puts_some _ _
          | some v =>
            intro s' h' hh
            simp only [put_eq] at hh ⊢
            simp at hh
            obtain ⟨rfl, rfl⟩ := hh
            exact ⟨v, D, none, rfl, rfl⟩

/-- an effect that panics leaves its frame alone, and does so by its operands -/
def Panics (τ τ' : List (List Value)) (D : List Deferred) (p : Option Value) (r r' : Option ORes) : Prop :=
  ∀ v s' h', r = some (.panic v s' h') → s' = ⟨τ, D, p⟩ ∧ r' = some (.panic v ⟨τ', D, p⟩ h')
theorem panics_none {τ τ' : List (List Value)} {D : List Deferred} {p : Option Value} {r' : Option ORes} : Panics τ τ' D p none r' := by intro v s' h' h; simp at h
theorem panics_ok {τ τ' : List (List Value)} {D : List Deferred} {p : Option Value} {s : FrS} {h : Heap} {r' : Option ORes} : Panics τ τ' D p (some (.ok s h)) r' := by intro v s' h' h; simp at h
theorem panics_ofRes {τ τ' : List (List Value)} {D : List Deferred} {p : Option Value} {dst : Option Tmp} (o : Option FRes) : Panics τ τ' D p (obind o (ofRes ⟨τ, D, p⟩ dst)) (obind o (ofRes ⟨τ', D, p⟩ dst)) := by
  intro v s' h' h
  cases o with
  | none => simp at h
  | some r =>
    cases r with
    | panic v1 h1 =>
      simp [ofRes] at h
      obtain ⟨rfl, rfl, rfl⟩ := h
      exact ⟨rfl, rfl⟩
    | ret v1 h1 q => simp [ofRes] at h
theorem panics_ofVal {τ τ' : List (List Value)} {D : List Deferred} {p : Option Value} {dst : Option Tmp} {r' : Option ORes} (o : Option (Value × Heap)) : Panics τ τ' D p (obind o (ofVal ⟨τ, D, p⟩ dst)) r' := by
  intro v s' h' h
  cases o <;> simp [ofVal] at h
theorem panics_ofHeap {τ τ' : List (List Value)} {D : List Deferred} {p : Option Value} {dst : Option Tmp} {r' : Option ORes} (o : Option Heap) : Panics τ τ' D p (obind o (ofHeap ⟨τ, D, p⟩ dst)) r' := by
  intro v s' h' h
  cases o <;> simp [ofHeap] at h
theorem eff_panic {τ τ' : List (List Value)} {D : List Deferred} {p : Option Value} {dst : Option Tmp} {h : Heap} {op : Op} (hx : ∀ x ∈ op.operands.toList, ev τ x = ev τ' x) :
    Panics τ τ' D p (effOp C self rd dst ⟨τ, D, p⟩ h op) (effOp C self rd dst ⟨τ', D, p⟩ h op) := by
  cases op <;> try exact panics_none
  case store t a v => exact panics_ofHeap _
  case mapUpdate t m k v => exact panics_ofHeap _
  case insert t m k v => exact panics_ofHeap _
  case range t x =>
    simp only [effOp]
    unfold rangeOp
    split
    · cases C.und t with
      | none => exact panics_none
      | some d =>
        simp only [obind_some]
        cases isStringD d
        · exact panics_none
        · exact panics_ok
    · exact panics_none
  case next it b =>
    simp only [effOp]
    cases b
    · exact panics_none
    · exact panics_ofVal _
  case panic x =>
    simp only [effOp]
    rw [← hx x (by simp [Op.operands])]
    unfold panicOp
    split
    · intro v s' h' hh
      simp at hh
      obtain ⟨rfl, rfl, rfl⟩ := hh
      exact ⟨rfl, rfl⟩
    · exact panics_none
  case defer c =>
    simp only [effOp, deferOp]
    cases rd with
    | some l => exact panics_none
    | none =>
      cases hc : c.callee with
      | value f =>
        simp only
        unfold deferVal
        split
        · exact panics_ok
        · exact panics_none
      | _ => exact panics_none
  case call c =>
    have ha : c.args.toList.map (ev τ) = c.args.toList.map (ev τ') := List.map_congr_left fun x hxx => hx x (by simp [Op.operands, Call.operands]; right; simpa using hxx)
    simp only [effOp, callOp]
    cases hc : c.callee with
    | value f =>
      simp only
      rw [← hx f (by simp [Op.operands, Call.operands, hc]), ← ha]
      unfold callVal
      split
      · exact panics_ofRes _
      · exact panics_none
    | invoke r name =>
      simp only
      rw [← hx r (by simp [Op.operands, Call.operands, hc]), ← ha]
      exact panics_ofRes _
    | builtin b =>
      simp only
      cases b <;> simp only [callBuiltin] <;> try exact panics_none
      case append => split <;> first | exact panics_ofVal _ | exact panics_none
      case copy => split <;> first | exact panics_ofVal _ | exact panics_none
      case delete =>
        split
        · rename_i t ts x y l e1 e2
          cases aDelete C t x y h with
          | none => exact panics_none
          | some h1 => exact panics_ok
        · exact panics_none
      case recover =>
        unfold recoverOp
        cases rd with
        | some l => exact panics_none
        | none =>
          cases p with
          | none => exact panics_ok
          | some v => exact panics_ok
theorem putEV_calm {dst : Option Tmp} {s s' : FrS} {h h' : Heap} {e : EV} {v : Value} : putEV dst s h e ≠ some (.panic v s' h') := by
  cases e with
  | val v => simp [putEV]
  | new x mk =>
    intro hp
    obtain ⟨_, h2⟩ := guardB_eq hp
    simp at h2
theorem bare_eq {r r' : ORes} {l : List Deferred} (h : ifBare r l = some r') : l = [] ∧ r' = r := by
  cases l with
  | nil => simp [ifBare] at h; exact ⟨rfl, h.symm⟩
  | cons d l => simp [ifBare] at h

/- THE TRACE OF A PLAN -/
abbrev PSt := List Rec × FrS × Heap

def PStep (C : Ctx) (self : Self) (rd : Option Nat) (ops : List Oper) (a b : PSt) : PE → Prop
  | .re i o => b = a ∧ recheckR C o.op a.2.2 (findRec i a.1) = true
  | .ex i o =>
    (wantedA ops o a.2.1.tmps = false ∧ b = (a.1, a.2.1.put o.dst undef, a.2.2)) ∨
    (wantedA ops o a.2.1.tmps = true ∧ isEff o.op = true ∧ b.1 = a.1 ∧ effOp C self rd o.dst a.2.1 a.2.2 o.op = some (.ok b.2.1 b.2.2)) ∨
    (wantedA ops o a.2.1.tmps = true ∧ isEff o.op = false ∧ ∃ e, earlyVal C (ev a.2.1.tmps) a.2.2 o.op = some e ∧ putEV o.dst a.2.1 a.2.2 e = some (.ok b.2.1 b.2.2) ∧ b.1 = recEV i a.2.1.tmps a.2.2 e :: a.1)

theorem runPlan_cons (C : Ctx) (self : Self) (rd : Option Nat) (ops : List Oper) (e : PE) (l : List PE) (rs : List Rec) (s : FrS) (h : Heap) : runPlan C self rd ops (e :: l) rs s h = exPE C self rd ops (runPlan C self rd ops l) rs s h e := rfl

theorem plan_trace {ops : List Oper} : ∀ (l : List PE) {rs : List Rec} {s : FrS} {h : Heap} {r : ORes}, runPlan C self rd ops l rs s h = some r →
    ∃ (tr : Nat → PSt) (N : Nat), tr 0 = (rs, s, h) ∧ (∀ p e, p < N → l[p]? = some e → PStep C self rd ops (tr p) (tr (p + 1)) e) ∧
      ((N = l.length ∧ r = .ok (tr l.length).2.1 (tr l.length).2.2) ∨
        ∃ i o v h', l[N]? = some (.ex i o) ∧ isEff o.op = true ∧ wantedA ops o (tr N).2.1.tmps = true ∧ effOp C self rd o.dst (tr N).2.1 (tr N).2.2 o.op = some (.panic v (tr N).2.1 h') ∧ (tr N).2.1.defers = [] ∧ r = .panic v (tr N).2.1 h')
  | [], rs, s, h, r, hr => by
    have : r = .ok s h := by simpa [runPlan, lrec_nil] using hr.symm
    subst this
    exact ⟨fun _ => (rs, s, h), 0, rfl, fun p e _ he => by simp at he, .inl ⟨rfl, rfl⟩⟩
  | e :: l, rs, s, h, r, hr => by
    rw [runPlan_cons] at hr
    have key : (∃ b : PSt, PStep C self rd ops (rs, s, h) b e ∧ runPlan C self rd ops l b.1 b.2.1 b.2.2 = some r) ∨
        ∃ i o v h', e = .ex i o ∧ isEff o.op = true ∧ wantedA ops o s.tmps = true ∧ effOp C self rd o.dst s h o.op = some (.panic v s h') ∧ s.defers = [] ∧ r = .panic v s h' := by
      cases e with
      | re i o =>
        obtain ⟨h1, h2⟩ := guardB_eq hr
        exact .inl ⟨(rs, s, h), ⟨rfl, h1⟩, h2⟩
      | ex i o =>
        simp only [exPE] at hr
        split at hr
        · rename_i hw
          unfold exOp at hr
          split at hr
          · rename_i heff
            obtain ⟨ro, h1, h2⟩ := obind_eq hr
            cases ro with
            | panic v s1 h1' =>
              obtain ⟨hd, hr'⟩ := bare_eq h2
              obtain ⟨es, _⟩ := eff_panic (τ := s.tmps) (τ' := s.tmps) (D := s.defers) (p := s.pan) (fun x _ => rfl) v s1 h1' h1
              have es : s1 = s := es
              subst es
              exact .inr ⟨i, o, v, h1', rfl, heff, hw, h1, hd, hr'⟩
            | ok s1 h1' => exact .inl ⟨(rs, s1, h1'), .inr (.inl ⟨hw, heff, rfl, h1⟩), h2⟩
          · rename_i heff
            obtain ⟨e', h1, h2⟩ := obind_eq hr
            obtain ⟨ro, h3, h4⟩ := obind_eq h2
            cases ro with
            | panic v s1 h1 => exact absurd h3 putEV_calm
            | ok s1 h1' => exact .inl ⟨(recEV i s.tmps h e' :: rs, s1, h1'), .inr (.inr ⟨hw, heff, e', h1, h3, rfl⟩), h4⟩
        · rename_i hw
          exact .inl ⟨(rs, s.put o.dst undef, h), .inl ⟨hw, rfl⟩, hr⟩
    rcases key with ⟨b, hb, hrun⟩ | ⟨i, o, v, h', rfl, h1, h2, h3, h4, h5⟩
    · obtain ⟨tr, N, t0, t1, t2⟩ := plan_trace l hrun
      refine ⟨fun n => match n with | 0 => (rs, s, h) | n + 1 => tr n, N + 1, rfl, ?_, ?_⟩
      · intro p e' hp he'
        cases p with
        | zero =>
          simp at he'
          subst he'
          show PStep C self rd ops (rs, s, h) (tr 0) e
          rw [t0]; exact hb
        | succ p => exact t1 p e' (by omega) (by simpa using he')
      · rcases t2 with ⟨t2, t3⟩ | ⟨i, o, v, h', t3, t4⟩
        · exact .inl ⟨by rw [t2]; rfl, t3⟩
        · exact .inr ⟨i, o, v, h', by simpa using t3, t4⟩
    · exact ⟨fun _ => (rs, s, h), 0, rfl, fun p e' hp => by omega, .inr ⟨i, o, v, h', rfl, h1, h2, h3, h4, h5⟩⟩
end
end Go.Am

/- The abstract machine, part 24: the orders that a region may draw. -/
namespace Go.Am
open Go

/-- an order of what is left of a region, behind what is done -/
inductive Order (ops : Array Oper) : List Nat → List Nat → Prop
  | done (pre : List Nat) (h : ∀ i, i < ops.size → i ∈ pre) : Order ops pre []
  | next (pre : List Nat) (i : Nat) (L : List Nat) (hi : i < ops.size) (hn : i ∉ pre) (he : ∀ o, ops[i]? = some o → ∀ e ∈ o.after.toList, Region.binds .any e = true → e.on ∈ pre) (h : Order ops (i :: pre) L) : Order ops pre (i :: L)

/-- a witness that a mode's order never gets stuck -/
structure Wit (md : Region.Mode) (ops : Array Oper) (W : List Nat) : Prop where
  len : W.length ≤ ops.size
  all : ∀ i, i < ops.size → i ∈ W
  edge : ∀ W1 i W2, W = W1 ++ i :: W2 → i < ops.size ∧ ∀ o, ops[i]? = some o → ∀ e ∈ o.after.toList, Region.binds md e = true → e.on ∈ W1

theorem mem_ready {md : Region.Mode} {ops : Array Oper} {listed : Array Bool} {i : Nat} : i ∈ Region.ready md ops listed ↔ i < ops.size ∧ listed.getD i true = false ∧ ∀ o, ops[i]? = some o → ∀ e ∈ o.after.toList, Region.binds md e = true → listed.getD e.on false = true := by
  unfold Region.ready
  rw [List.mem_filter, List.mem_range]
  constructor
  · rintro ⟨h1, h2⟩
    obtain ⟨h3, h4⟩ := (Bool.and_eq_true _ _).mp h2
    refine ⟨h1, by simpa using h3, fun o ho e he hb => ?_⟩
    rw [ho] at h4
    simp only [Option.map_some, Option.getD_some] at h4
    have := (Array.all_eq_true'.1 h4) e (Array.mem_toList_iff.1 he)
    simpa [hb] using this
  · rintro ⟨h1, h2, h3⟩
    refine ⟨h1, ?_⟩
    rw [h2]
    obtain ⟨o, ho⟩ : ∃ o, ops[i]? = some o := ⟨_, Array.getElem?_eq_getElem h1⟩
    rw [ho]
    simp only [Option.map_some, Option.getD_some, Bool.not_false, Bool.true_and]
    refine Array.all_eq_true'.2 fun e he => ?_
    cases hb : Region.binds md e with
    | false => rfl
    | true => simpa using h3 o ho e (Array.mem_toList_iff.2 he) hb

theorem binds_any {md : Region.Mode} {e : Edge} (h : Region.binds .any e = true) : Region.binds md e = true := by
  unfold Region.binds at *
  cases hg : e.ground <;> rw [hg] at h <;> first | rfl | (simp at h)

theorem go_order {md : Region.Mode} {ops : Array Oper} {W : List Nat} (hW : Wit md ops W) : ∀ (fuel t : Nat) (listed : Array Bool) (pre : List Nat), listed.size = ops.size → (∀ j, listed[j]? = some true ↔ j ∈ pre) →
    (W.filter fun j => !pre.contains j).length ≤ fuel → Order ops pre (Region.linearise.go md ops fuel t listed []) := by
  have empty : ∀ pre : List Nat, (W.filter fun j => !pre.contains j) = [] → ∀ i, i < ops.size → i ∈ pre := by
    intro pre h i hi
    have := List.filter_eq_nil_iff.1 h i (hW.all i hi)
    simpa using this
  intro fuel
  induction fuel with
  | zero =>
    intro t listed pre hs hl hf
    exact .done pre (empty pre (List.eq_nil_of_length_eq_zero (Nat.le_zero.1 hf)))
  | succ fuel ih =>
    intro t listed pre hs hl hf
    simp only [Region.linearise.go]
    change Order ops pre (match (Region.ready md ops listed)[t % (Region.ready md ops listed).length]? with
      | some i => Region.linearise.go md ops fuel (t / (Region.ready md ops listed).length) (listed.setIfInBounds i true) [i]
      | none => [].reverse)
    cases hi : (Region.ready md ops listed)[t % (Region.ready md ops listed).length]? with
    | none =>
      have hnil : Region.ready md ops listed = [] := by
        cases hr : Region.ready md ops listed with
        | nil => rfl
        | cons x xs =>
          rw [hr] at hi
          have hlt : t % (x :: xs).length < (x :: xs).length := Nat.mod_lt _ (by simp)
          simp at hi
          simp at hlt
          omega
      refine .done pre (empty pre ?_)
      cases hfil : W.filter (fun j => !pre.contains j) with
      | nil => rfl
      | cons x xs =>
        obtain ⟨W1, W2, e1, e2, e3, _⟩ := List.filter_eq_cons_iff.1 hfil
        obtain ⟨hx, he⟩ := hW.edge W1 x W2 e1
        have hxn : x ∉ pre := by simpa using e3
        have : x ∈ Region.ready md ops listed := by
          refine mem_ready.2 ⟨hx, ?_, fun o ho e hee hb => ?_⟩
          · have hx' : x < listed.size := by omega
            have : listed[x]? ≠ some true := fun q => hxn ((hl x).1 q)
            rw [Array.getD_eq_getD_getElem?]
            rw [Array.getElem?_eq_getElem hx'] at this ⊢
            simpa using this
          · have h1 := he o ho e hee hb
            have h2 := e2 _ h1
            have h3 : e.on ∈ pre := by simpa using h2
            rw [Array.getD_eq_getD_getElem?, (hl _).2 h3]; rfl
        rw [hnil] at this
        simp at this
    | some i =>
      simp only []
      rw [linearise_go_acc, List.reverse_singleton, List.singleton_append]
      obtain ⟨h1, h2, h3⟩ := mem_ready.1 (List.mem_of_getElem? hi)
      have hin : i ∉ pre := by
        intro q
        rw [Array.getD_eq_getD_getElem?, (hl i).2 q] at h2
        simp at h2
      refine .next pre i _ h1 hin (fun o ho e he hb => ?_) (ih _ _ (i :: pre) (by simpa using hs) (fun j => ?_) ?_)
      · have := h3 o ho e he (binds_any hb)
        rw [Array.getD_eq_getD_getElem?] at this
        cases hg : listed[e.on]? with
        | none => rw [hg] at this; simp at this
        | some b => rw [hg] at this; simp at this; subst this; exact (hl _).1 hg
      · rw [Array.getElem?_setIfInBounds]
        by_cases hj : i = j
        · subst hj
          have : i < listed.size := by omega
          simp [this]
        · rw [if_neg hj, hl j]
          simp [show ¬ j = i from fun q => hj q.symm]
      · have e1 : (W.filter fun j => !(i :: pre).contains j) = (W.filter fun j => !pre.contains j).filter (fun j => !(j == i)) := by
          rw [List.filter_filter]
          congr 1
          funext j
          simp only [List.contains_cons, Bool.not_or]
        have e2 : (W.filter fun j => !(i :: pre).contains j).length < (W.filter fun j => !pre.contains j).length := by
          rw [e1]
          refine List.length_filter_lt_length_iff_exists.2 ⟨i, List.mem_filter.2 ⟨hW.all i h1, by simpa using hin⟩, by simp⟩
        omega

theorem linearise_order {md : Region.Mode} {ops : Array Oper} {W : List Nat} (hW : Wit md ops W) (t : Nat) : Order ops [] (Region.linearise md ops t) := by
  refine go_order hW ops.size t _ [] (by simp) (fun j => ?_) ?_
  · simp [Array.getElem?_replicate]
  · exact Nat.le_trans (List.length_filter_le _ _) hW.len

/- THE CHECK OF A WITNESS -/
noncomputable def edgesIn (md : Region.Mode) (done : Nat) (o : Oper) : Bool := o.after.toList.all fun e => match Region.binds md e with | true => done.testBit e.on | false => true

noncomputable def wPass (md : Region.Mode) (ops : List Oper) : List Nat → Nat → Bool :=
  lrec (fun done => (List.range ops.length).all fun i => done.testBit i)
    (fun i _ ih done => match lget ops i with
      | some o => edgesIn md done o && ih (done ||| 2 ^ i)
      | none => false)

theorem wPass_cons (md : Region.Mode) (ops : List Oper) (i : Nat) (W : List Nat) (done : Nat) : wPass md ops (i :: W) done = (match lget ops i with | some o => edgesIn md done o && wPass md ops W (done ||| 2 ^ i) | none => false) := rfl

theorem wPass_ok {md : Region.Mode} {ops : Array Oper} : ∀ (W : List Nat) {done : Nat} {pre : List Nat}, wPass md ops.toList W done = true → (∀ j, done.testBit j = true → j ∈ pre) →
    (∀ i, i < ops.size → i ∈ pre ∨ i ∈ W) ∧ ∀ W1 i W2, W = W1 ++ i :: W2 → i < ops.size ∧ ∀ o, ops[i]? = some o → ∀ e ∈ o.after.toList, Region.binds md e = true → e.on ∈ pre ∨ e.on ∈ W1
  | [], done, pre, h, hd => by
    have h : ((List.range ops.toList.length).all fun i => done.testBit i) = true := h
    refine ⟨fun i hi => .inl (hd i (List.all_eq_true.1 h i (List.mem_range.2 (by simpa using hi)))), fun W1 i W2 e => ?_⟩
    simp at e
  | x :: W, done, pre, h, hd => by
    rw [wPass_cons, lget_eq, Array.getElem?_toList] at h
    cases ho : ops[x]? with
    | none => rw [ho] at h; simp at h
    | some o =>
      rw [ho] at h
      obtain ⟨h1, h2⟩ := (Bool.and_eq_true _ _).mp h
      have hx : x < ops.size := (Array.getElem?_eq_some_iff.1 ho).1
      obtain ⟨a1, a2⟩ := wPass_ok W (pre := x :: pre) h2 (fun j hj => by
        rw [Nat.testBit_or, Nat.testBit_two_pow] at hj
        rcases (Bool.or_eq_true _ _).mp hj with q | q
        · exact List.mem_cons_of_mem _ (hd j q)
        · have : x = j := by simpa using q
          subst this; exact List.mem_cons_self)
      refine ⟨fun i hi => ?_, fun W1 i W2 e => ?_⟩
      · rcases a1 i hi with q | q
        · rcases List.mem_cons.1 q with rfl | q
          · exact .inr List.mem_cons_self
          · exact .inl q
        · exact .inr (List.mem_cons_of_mem _ q)
      · cases W1 with
        | nil =>
          simp at e
          obtain ⟨rfl, rfl⟩ := e
          refine ⟨hx, fun o' ho' ed hed hb => ?_⟩
          rw [ho] at ho'; simp at ho'; subst ho'
          have := List.all_eq_true.1 h1 ed hed
          rw [hb] at this
          exact .inl (hd _ this)
        | cons y W1 =>
          simp at e
          obtain ⟨rfl, e⟩ := e
          obtain ⟨b1, b2⟩ := a2 W1 i W2 e
          refine ⟨b1, fun o' ho' ed hed hb => ?_⟩
          rcases b2 o' ho' ed hed hb with q | q
          · rcases List.mem_cons.1 q with q | q
            · exact .inr (by rw [q]; exact List.mem_cons_self)
            · exact .inl q
          · exact .inr (List.mem_cons_of_mem _ q)

noncomputable def witOK (md : Region.Mode) (ops : List Oper) (W : List Nat) : Bool := Nat.ble W.length ops.length && wPass md ops W 0

theorem witOK_ok {md : Region.Mode} {ops : Array Oper} {W : List Nat} (h : witOK md ops.toList W = true) : Wit md ops W := by
  obtain ⟨h1, h2⟩ := (Bool.and_eq_true _ _).mp h
  obtain ⟨a1, a2⟩ := wPass_ok W (pre := []) h2 (fun j hj => by simp at hj)
  refine ⟨by simpa using Nat.le_of_ble_eq_true h1, fun i hi => by simpa using a1 i hi, fun W1 i W2 e => ?_⟩
  obtain ⟨b1, b2⟩ := a2 W1 i W2 e
  exact ⟨b1, fun o ho ed hed hb => by simpa using b2 o ho ed hed hb⟩

/-- a greedy order -/
noncomputable def firstReady (md : Region.Mode) (l : List (Oper × Nat)) (done : Nat) : Option Nat :=
  lrec none (fun p _ ih => match done.testBit p.2 with | true => ih | false => match edgesIn md done p.1 with | true => some p.2 | false => ih) l
noncomputable def greedy (md : Region.Mode) (l : List (Oper × Nat)) : Nat → Nat → List Nat :=
  nrec (fun _ => []) (fun _ ih done => match firstReady md l done with | some i => i :: ih (done ||| 2 ^ i) | none => [])

noncomputable def anyDeparts (ops : List Oper) : Bool := ops.any fun o => o.after.toList.any fun e => !(Region.binds .any e)

noncomputable def ordersOK (ops : List Oper) : Bool :=
  match anyDeparts ops with
  | false => witOK .any ops (List.range ops.length)
  | true => witOK .any ops (List.range ops.length) && (witOK .text ops (List.range ops.length) && witOK .gc ops (greedy .gc ops.zipIdx ops.length 0))

theorem schedule_order {ops : Array Oper} (h : ordersOK ops.toList = true) (mixed : Bool) (t : Nat) : Order ops [] (Region.schedule mixed ops t) := by
  have hd : Region.departs ops = anyDeparts ops.toList := by
    unfold Region.departs anyDeparts
    rw [← Array.any_toList]
    congr 1
    funext o
    rw [← Array.any_toList]
  unfold ordersOK at h
  unfold Region.schedule
  rw [hd]
  cases ha : anyDeparts ops.toList with
  | false =>
    rw [ha] at h
    simp only [Bool.not_false, Bool.or_true, if_true]
    exact linearise_order (witOK_ok h) t
  | true =>
    rw [ha] at h
    obtain ⟨h1, h2⟩ := (Bool.and_eq_true _ _).mp h
    obtain ⟨h2, h3⟩ := (Bool.and_eq_true _ _).mp h2
    split
    · exact linearise_order (witOK_ok h1) t
    · split
      · exact linearise_order (witOK_ok h2) _
      · exact linearise_order (witOK_ok h3) _
end Go.Am

/- The abstract machine, part 25: masks; the check of a region's plan. -/
namespace Go.Am
open Go

/- MASKS -/
theorem masks_append (l : List Oper) (o : Oper) : masks (l ++ [o]) = masks l ++ [maskOf (masks l) o] := by simp [masks, List.foldl_append]

theorem snocInd {α : Type} {Q : List α → Prop} (h0 : Q []) (h1 : ∀ l a, Q l → Q (l ++ [a])) (l : List α) : Q l := by
  have key : ∀ m : List α, Q m.reverse := by
    intro m
    induction m with
    | nil => exact h0
    | cons a m ih => rw [List.reverse_cons]; exact h1 _ _ ih
  have := key l.reverse
  rwa [List.reverse_reverse] at this

theorem masks_length : ∀ l : List Oper, (masks l).length = l.length := by
  refine snocInd rfl ?_
  intro l o ih
  rw [masks_append]; simp [ih]

theorem masks_get : ∀ (l : List Oper) (i : Nat) (o : Oper), l[i]? = some o → (masks l)[i]? = some (maskOf ((masks l).take i) o) := by
  refine snocInd (fun i o h => by simp at h) ?_
  · intro l x ih i o h
    rw [masks_append]
    by_cases hi : i < l.length
    · rw [List.getElem?_append_left hi] at h
      rw [List.getElem?_append_left (by rw [masks_length]; exact hi), ih i o h]
      congr 2
      rw [List.take_append_of_le_length (by rw [masks_length]; omega)]
    · rw [List.getElem?_append_right (by omega)] at h
      have hi' : i - l.length = 0 := by
        cases hk : i - l.length with
        | zero => rfl
        | succ n => rw [hk] at h; simp at h
      rw [hi'] at h
      simp at h; subst h
      have : i = l.length := by omega
      subst this
      rw [List.getElem?_append_right (by rw [masks_length]; exact Nat.le_refl _)]
      simp only [masks_length, Nat.sub_self, List.getElem?_cons_zero]
      congr 2
      rw [List.take_append_of_le_length (by rw [masks_length]; exact Nat.le_refl _), ← masks_length l, List.take_length]

theorem maskOf_bits {acc : List Nat} {j : Nat} : ∀ (l : List Edge) (s : Nat), (l.foldl (fun s e => if Region.binds .any e then s ||| 2 ^ e.on ||| acc.getD e.on 0 else s) s).testBit j = true →
    s.testBit j = true ∨ ∃ e ∈ l, Region.binds .any e = true ∧ (j = e.on ∨ (acc.getD e.on 0).testBit j = true)
  | [], s, h => .inl h
  | e :: l, s, h => by
    rw [List.foldl_cons] at h
    rcases maskOf_bits l _ h with q | ⟨e', h1, h2⟩
    · split at q
      · rename_i hb
        rw [Nat.testBit_or, Nat.testBit_or, Nat.testBit_two_pow] at q
        rcases (Bool.or_eq_true _ _).mp q with q | q
        · rcases (Bool.or_eq_true _ _).mp q with q | q
          · exact .inl q
          · have he : e.on = j := by simpa using q
            exact .inr ⟨e, List.mem_cons_self, hb, .inl he.symm⟩
        · exact .inr ⟨e, List.mem_cons_self, hb, .inr q⟩
      · exact .inl q
    · exact .inr ⟨e', List.mem_cons_of_mem _ h1, h2⟩

noncomputable def msk (ops : List Oper) (i : Nat) : Nat := (masks ops).getD i 0

def Closed (ops : List Oper) (pre : List Nat) : Prop := ∀ i ∈ pre, ∀ j, (msk ops i).testBit j = true → j ∈ pre

theorem mask_in {ops : List Oper} {pre : List Nat} (hc : Closed ops pre) {i : Nat} {o : Oper} (ho : ops[i]? = some o) (he : ∀ e ∈ o.after.toList, Region.binds .any e = true → e.on ∈ pre) : ∀ j, (msk ops i).testBit j = true → j ∈ pre := by
  intro j hj
  unfold msk at hj
  rw [List.getD_eq_getElem?_getD, masks_get ops i o ho] at hj
  simp only [Option.getD_some] at hj
  unfold maskOf at hj
  rcases maskOf_bits _ _ hj with q | ⟨e, h1, h2, rfl | h3⟩
  · simp at q
  · exact he e h1 h2
  · refine hc e.on (he e h1 h2) j ?_
    unfold msk
    rw [List.getD_eq_getElem?_getD] at h3 ⊢
    rw [List.getElem?_take] at h3
    split at h3
    · exact h3
    · simp at h3

theorem Closed.cons {ops : List Oper} {pre : List Nat} (hc : Closed ops pre) {i : Nat} (h : ∀ j, (msk ops i).testBit j = true → j ∈ pre) : Closed ops (i :: pre) := by
  intro k hk j hj
  rcases List.mem_cons.1 hk with rfl | hk
  · exact List.mem_cons_of_mem _ (h j hj)
  · exact List.mem_cons_of_mem _ (hc k hk j hj)

/- THE CHECK OF A PLAN -/
noncomputable def tmpsIn (l : List Operand) : List Tmp := lrec [] (fun x _ ih => match x with | .tmp t => t :: ih | _ => ih) l
noncomputable def guardTmp (ops : List Oper) : Option (Nat × Bool) → List Tmp
  | none => []
  | some q => match lget ops q.1 with | some g => g.dst.toList | none => []
noncomputable def looks (ops : List Oper) (o : Oper) : List Tmp := guardTmp ops o.guard ++ tmpsIn o.op.operands.toList
noncomputable def names (ops : List Oper) (o : Oper) : List Tmp := o.dst.toList ++ looks ops o
noncomputable def memT (t : Tmp) (l : List Tmp) : Bool := lrec false (fun x _ ih => match Nat.beq t x with | true => true | false => ih) l
noncomputable def writesInto (d : Option Tmp) (l : List Tmp) : Bool := match d with | some t => memT t l | none => false
/-- two operations that must not change places -/
noncomputable def clash (ops : List Oper) (a b : Oper) : Bool := writesInto a.dst (names ops b) || writesInto b.dst (names ops a)

theorem memT_ok (t : Tmp) (l : List Tmp) : memT t l = true ↔ t ∈ l := by
  induction l with
  | nil => simp [memT, lrec_nil]
  | cons x l ih =>
    have : memT t (x :: l) = (match Nat.beq t x with | true => true | false => memT t l) := rfl
    rw [this]
    cases hb : Nat.beq t x with
    | true => have := natBeq hb; subst this; simp
    | false =>
      have : t ≠ x := fun q => by subst q; rw [Nat.beq_refl] at hb; simp at hb
      simp [ih, this]

theorem clash_of {ops : List Oper} {a b : Oper} {t : Tmp} (ha : a.dst = some t) (hb : t ∈ names ops b) : clash ops a b = true ∧ clash ops b a = true := by
  have : writesInto a.dst (names ops b) = true := by rw [ha]; exact (memT_ok _ _).2 hb
  constructor <;> simp [clash, this]

abbrev PsSt := Nat × List (Nat × Oper) × List Nat

noncomputable def okBehind (ops : List Oper) (m : Nat) (o : Oper) (q : Nat × Oper) : Bool := match isEff q.2.op || clash ops q.2 o with | true => m.testBit q.1 | false => true
noncomputable def pendOf (m : Nat) (done : List (Nat × Oper)) : List Nat := (done.filter fun q => !(isEff q.2.op) && (heapBound q.2.op && !(m.testBit q.1))).map (·.1)
noncomputable def nextPend (m : Nat) (done : List (Nat × Oper)) : Bool → List Nat
  | true => pendOf m done
  | false => []

noncomputable def noPend : List Nat → Bool
  | [] => true
  | _ :: _ => false

noncomputable def planPass (ops : List Oper) (ms : List Nat) (l : List PE) : Nat → List (Nat × Oper) → List Nat → Bool :=
  lrec (fun dm _ pend => noPend pend && (List.range ops.length).all fun i => dm.testBit i)
    (fun e _ ih dm done pend => match e with
      | .ex i o => noPend pend && ((!(dm.testBit i)) && (Nat.beq (ms.getD i 0 &&& dm) (ms.getD i 0) && (done.all (okBehind ops (ms.getD i 0) o) && ih (dm ||| 2 ^ i) ((i, o) :: done) (nextPend (ms.getD i 0) done (isEff o.op)))))
      | .re i _ => ih dm done (pend.filter fun j => !(Nat.beq j i))) l

/-- what the check says, position by position -/
structure PassAt (ops : List Oper) (e : PE) (a b : PsSt) : Prop where
  ex : ∀ i o, e = .ex i o → a.2.2 = [] ∧ a.1.testBit i = false ∧ (∀ j, (msk ops i).testBit j = true → a.1.testBit j = true) ∧ (∀ q ∈ a.2.1, (isEff q.2.op = true ∨ clash ops q.2 o = true) → (msk ops i).testBit q.1 = true) ∧
    b = (a.1 ||| 2 ^ i, (i, o) :: a.2.1, nextPend (msk ops i) a.2.1 (isEff o.op))
  re : ∀ i o, e = .re i o → b = (a.1, a.2.1, a.2.2.filter fun j => !(Nat.beq j i))

theorem pass_trace {ops : List Oper} : ∀ (l : List PE) {dm : Nat} {done : List (Nat × Oper)} {pend : List Nat}, planPass ops (masks ops) l dm done pend = true →
    ∃ ps : Nat → PsSt, ps 0 = (dm, done, pend) ∧ (∀ p e, l[p]? = some e → PassAt ops e (ps p) (ps (p + 1))) ∧ (ps l.length).2.2 = [] ∧ ∀ i, i < ops.length → (ps l.length).1.testBit i = true
  | [], dm, done, pend, h => by
    have h : (noPend pend && (List.range ops.length).all fun i => dm.testBit i) = true := h
    obtain ⟨h1, h2⟩ := (Bool.and_eq_true _ _).mp h
    refine ⟨fun _ => (dm, done, pend), rfl, fun p e he => by simp at he, ?_, fun i hi => List.all_eq_true.1 h2 i (List.mem_range.2 hi)⟩
    cases pend with
    | nil => rfl
    | cons _ _ => simp [noPend] at h1
  | e :: l, dm, done, pend, h => by
    have key : ∃ b : PsSt, PassAt ops e (dm, done, pend) b ∧ planPass ops (masks ops) l b.1 b.2.1 b.2.2 = true := by
      cases e with
      | ex i o =>
        have h : (noPend pend && ((!(dm.testBit i)) && (Nat.beq (msk ops i &&& dm) (msk ops i) && (done.all (okBehind ops (msk ops i) o) && planPass ops (masks ops) l (dm ||| 2 ^ i) ((i, o) :: done) (nextPend (msk ops i) done (isEff o.op)))))) = true := h
        obtain ⟨h1, h⟩ := (Bool.and_eq_true _ _).mp h
        obtain ⟨h2, h⟩ := (Bool.and_eq_true _ _).mp h
        obtain ⟨h3, h⟩ := (Bool.and_eq_true _ _).mp h
        obtain ⟨h4, h5⟩ := (Bool.and_eq_true _ _).mp h
        refine ⟨(dm ||| 2 ^ i, (i, o) :: done, nextPend (msk ops i) done (isEff o.op)), ⟨fun i' o' e => ?_, fun i' o' e => by simp at e⟩, h5⟩
        simp at e
        obtain ⟨rfl, rfl⟩ := e
        refine ⟨?_, by simpa using h2, fun j hj => ?_, fun q hq hor => ?_, rfl⟩
        · cases pend with
          | nil => rfl
          | cons _ _ => simp [noPend] at h1
        · have := natBeq h3
          rw [← this, Nat.testBit_and] at hj
          exact ((Bool.and_eq_true _ _).mp hj).2
        · have := List.all_eq_true.1 h4 q hq
          unfold okBehind at this
          have hb : (isEff q.2.op || clash ops q.2 o) = true := by
            rcases hor with h | h <;> simp [h]
          rw [hb] at this
          exact this
      | re i o =>
        exact ⟨(dm, done, pend.filter fun j => !(Nat.beq j i)), ⟨fun i' o' e => by simp at e, fun i' o' e => by simp at e; obtain ⟨rfl, rfl⟩ := e; rfl⟩, h⟩
    obtain ⟨b, hb, hrun⟩ := key
    obtain ⟨ps, t0, t1, t2⟩ := pass_trace l hrun
    refine ⟨fun n => match n with | 0 => (dm, done, pend) | n + 1 => ps n, rfl, ?_, t2⟩
    intro p e' he'
    cases p with
    | zero =>
      simp at he'
      subst he'
      show PassAt ops e (dm, done, pend) (ps 0)
      rw [t0]; exact hb
    | succ p => exact t1 p e' (by simpa using he')

/-- the plan speaks of the region's own operations -/
theorem plan_own {ops : List Oper} : ∀ x ∈ planOf ops, (∀ i o, x = .ex i o → ops[i]? = some o) ∧ ∀ i o, x = .re i o → ops[i]? = some o := by
  have hz : ∀ p ∈ ops.zipIdx, ops[p.2]? = some p.1 := by
    intro p hp
    have := List.mem_zipIdx_iff_getElem?.1 hp
    exact this
  have key : ∀ (ms effs : List Nat) (l : List Nat) (k : Nat), ∀ x ∈ planFrom ops.zipIdx ms effs k l, (∀ i o, x = .ex i o → ops[i]? = some o) ∧ ∀ i o, x = .re i o → ops[i]? = some o := by
    intro ms effs l
    have hready : ∀ k, ∀ x ∈ readyAt ops.zipIdx ms effs k, (∀ i o, x = .ex i o → ops[i]? = some o) ∧ ∀ i o, x = .re i o → ops[i]? = some o := by
      intro k x hx
      obtain ⟨p, hp, rfl⟩ := List.mem_map.1 hx
      refine ⟨fun i o e => ?_, fun i o e => by simp at e⟩
      simp at e; obtain ⟨rfl, rfl⟩ := e
      exact hz p (List.mem_filter.1 hp).1
    induction l with
    | nil => intro k x hx; exact hready k x hx
    | cons e l ih =>
      intro k x hx
      simp only [planFrom, List.mem_append] at hx
      rcases hx with hx | hx | hx | hx
      · exact hready k x hx
      · obtain ⟨p, hp, rfl⟩ := List.mem_map.1 hx
        refine ⟨fun i o e => ?_, fun i o e => by simp at e⟩
        simp at e; obtain ⟨rfl, rfl⟩ := e
        exact hz p (List.mem_filter.1 hp).1
      · obtain ⟨p, hp, rfl⟩ := List.mem_map.1 hx
        refine ⟨fun i o e => by simp at e, fun i o e => ?_⟩
        simp at e; obtain ⟨rfl, rfl⟩ := e
        exact hz p (List.mem_filter.1 hp).1
      · exact ih (k + 1) x hx
  exact key _ _ _ _

/-- the static check of a region that draws its order -/
noncomputable def drawOK (ops : List Oper) : Bool := ordersOK ops && planPass ops (masks ops) (planOf ops) 0 [] []
end Go.Am

/- The abstract machine, part 26: what a plan's check and its trace say together. -/
namespace Go.Am
open Go

section
variable {ops : List Oper} {pl : List PE} {ps : Nat → PsSt} (h0 : ps 0 = (0, [], [])) (hps : ∀ p e, pl[p]? = some e → PassAt ops e (ps p) (ps (p + 1)))
include h0 hps

theorem done_iff : ∀ P, P ≤ pl.length → (∀ i o, (i, o) ∈ (ps P).2.1 ↔ ∃ p, p < P ∧ pl[p]? = some (.ex i o)) ∧ ∀ i, (ps P).1.testBit i = true ↔ ∃ o, (i, o) ∈ (ps P).2.1
  | 0, _ => by
    rw [h0]
    exact ⟨fun i o => ⟨fun h => by simp at h, fun ⟨p, h, _⟩ => by omega⟩, fun i => ⟨fun h => by simp at h, fun ⟨o, h⟩ => by simp at h⟩⟩
  | P + 1, hP => by
    obtain ⟨a1, a2⟩ := done_iff P (by omega)
    have hlt : P < pl.length := by omega
    have he := List.getElem?_eq_getElem hlt
    have hp := hps P _ he
    cases hx : pl[P] with
    | ex i o =>
      rw [hx] at hp he
      obtain ⟨_, _, _, _, hb⟩ := hp.ex i o rfl
      rw [hb]
      refine ⟨fun j o' => ?_, fun j => ?_⟩
      · rw [List.mem_cons, a1]
        constructor
        · rintro (h | ⟨p, h1, h2⟩)
          · simp at h; obtain ⟨rfl, rfl⟩ := h; exact ⟨P, by omega, he⟩
          · exact ⟨p, by omega, h2⟩
        · rintro ⟨p, h1, h2⟩
          rcases Nat.lt_or_ge p P with h | h
          · exact .inr ⟨p, h, h2⟩
          · have : p = P := by omega
            subst this
            rw [he] at h2; simp at h2
            exact .inl (by rw [h2.1, h2.2])
      · rw [Nat.testBit_or, Nat.testBit_two_pow, Bool.or_eq_true, a2]
        constructor
        · rintro (⟨o', h⟩ | h)
          · exact ⟨o', List.mem_cons_of_mem _ h⟩
          · have : i = j := by simpa using h
            subst this; exact ⟨o, List.mem_cons_self⟩
        · rintro ⟨o', h⟩
          rcases List.mem_cons.1 h with h | h
          · simp at h; exact .inr (by simp [h.1])
          · exact .inl ⟨o', h⟩
    | re i o =>
      rw [hx] at hp he
      have hb := hp.re i o rfl
      rw [hb]
      refine ⟨fun j o' => ?_, a2⟩
      rw [a1]
      constructor
      · rintro ⟨p, h1, h2⟩; exact ⟨p, by omega, h2⟩
      · rintro ⟨p, h1, h2⟩
        rcases Nat.lt_or_ge p P with h | h
        · exact ⟨p, h, h2⟩
        · have : p = P := by omega
          subst this
          rw [he] at h2; simp at h2

theorem ex_unique {p p' : Nat} {i : Nat} {o o' : Oper} (h1 : pl[p]? = some (.ex i o)) (h2 : pl[p']? = some (.ex i o')) : p = p' := by
  have key : ∀ {p p' : Nat} {o o' : Oper}, pl[p]? = some (.ex i o) → pl[p']? = some (.ex i o') → ¬ p < p' := by
    intro p p' o o' h1 h2 hlt
    have hl := (List.getElem?_eq_some_iff.1 h2).1
    obtain ⟨a1, a2⟩ := done_iff h0 hps p' (by omega)
    obtain ⟨_, hf, _⟩ := (hps p' _ h2).ex i o' rfl
    have := (a2 i).2 ⟨o, (a1 i o).2 ⟨p, hlt, h1⟩⟩
    rw [hf] at this; simp at this
  have := key h1 h2
  have := key h2 h1
  omega

/-- what comes before, in the plan, and must: lies in the mask -/
theorem behind {p q : Nat} {i j : Nat} {o o' : Oper} (h1 : pl[p]? = some (.ex i o)) (h2 : pl[q]? = some (.ex j o')) (hlt : q < p) (hc : isEff o'.op = true ∨ clash ops o' o = true) : (msk ops i).testBit j = true := by
  have hl := (List.getElem?_eq_some_iff.1 h1).1
  obtain ⟨a1, a2⟩ := done_iff h0 hps p (by omega)
  obtain ⟨_, _, _, hb, _⟩ := (hps p _ h1).ex i o rfl
  exact hb (j, o') ((a1 j o').2 ⟨q, hlt, h2⟩) hc

end
end Go.Am
