/- Parts Am18, Am19, Am20 of the abstract machine over this program, joined: what each part says stands at its head. -/
import Derived.Test.YtlflfbnnjlkkcaaGreatJAm15
set_option linter.unusedSimpArgs false
set_option linter.unusedVariables false
set_option linter.defProp false
namespace Go.Am
open Go
def Got (C : Ctx) (gd : List Oper → Bool) (w0 : World) (n : Nat) (M0 : Machine) (F : Frame) (cs : List Frame) (μ' : Mu) (w' : World) : FRes → Prop
  | .ret v h' _ => n ≤ h'.next ∧ HRel (goodP C gd) w0 μ' h' w' ∧ ∃ V, VRel μ' v V ∧ Steps C.P M0 (lone (F.finish V) cs w')
  | .panic v h' => n ≤ h'.next ∧ HRel (goodP C gd) w0 μ' h' w' ∧ ∃ V, VRel μ' v V ∧ Steps C.P M0 (lone (F.raise [{ v := V, recovered := false }]) cs w')
def noCall (todo : List Item) : Bool :=
  match todo with
  | .call _ _ _ _ :: _ => false
  | _ => true
theorem apply_enter {P : Program} {F : Frame} {cs : List Frame} {S : Sem Next} {w w' : World} {f : FuncId} {ARGS : Array Value} (hk : noCall F.todo = true) (h : S.run P w = .ok (.enter f ARGS) w') :
    (stepG.apply P true F cs none S w).bare = .go { frame := Frame.enter P f ARGS .normal, callers := F :: cs, status := .running, dying := none } w' := by
  simp only [stepG.apply, Sem.runT_eq, if_true, h, GStep.bare_after, GStep.bare_go]
  split
  · rename_i e; rw [e] at hk; simp [noCall] at hk
  · rfl
theorem apply_round {P : Program} {F : Frame} {cs : List Frame} {S : Sem Next} {w w' : World} {l : Nat} {f : FuncId} {t : Array Value} {a c : Code} (h : S.run P w = .ok (.round l f t a c) w') :
    (stepG.apply P true F cs none S w).bare = .go { frame := Frame.round l f t a c .normal, callers := F :: cs, status := .running, dying := none } w' := by
  simp only [stepG.apply, Sem.runT_eq, if_true, h, GStep.bare_after, GStep.bare_go]
theorem setAll_cons (t : Tmp) (ts : List Tmp) (v : Value) (vs : List Value) (τ : List (List Value)) : setAll (t :: ts) (v :: vs) τ = setAll ts vs (tset τ t v) := rfl
theorem setAll_rel {μ : Mu} : ∀ (ts : List Tmp) {vs VS : List Value} {τ : List (List Value)} {T : Array Value}, vs.length = ts.length → VRels μ vs VS → TRel μ τ T → TRel μ (setAll ts vs τ) ((ts.zip VS).foldl (fun t p => t.setIfInBounds p.1 p.2) T)
  | [], vs, VS, τ, T, hl, hv, hT => by
    have : vs = [] := by simpa using hl
    subst this
    obtain rfl := hv.nil_inv
    exact hT
  | t :: ts, vs, VS, τ, T, hl, hv, hT => by
    cases vs with
    | nil => simp at hl
    | cons v vs =>
      obtain ⟨V, VS', rfl, h1, h2⟩ := hv.cons_inv
      rw [setAll_cons, List.zip_cons_cons, List.foldl_cons]
      exact setAll_rel ts (by simpa using hl) h2 (hT.set t h1)
section
variable {C : Ctx} {gd : List Oper → Bool} {w0 : World} (hOk : C.Ok gd w0) {self : Self} (hS : SelfOK C gd w0 self)
include hOk hS
omit hOk hS in
theorem got_of_calls {f : FuncId} {ARGS : Array Value} {w w00 : World} {μ : Mu} {n : Nat} {res : FRes} {F F0 : Frame} {cs : List Frame} {S : Sem Next} (hk : noCall F.todo = true) (hrun : S.run C.P w = .ok (.enter f ARGS) w)
    (hst : (stepG C.P true { frame := F0, callers := cs, status := .running, dying := none } w00).bare = (stepG.apply C.P true F cs none S w).bare)
    (hc : Calls C.P f ARGS w (CallPost C gd w0 μ n res)) : ∃ μ' w', μ.le μ' ∧ Fresh n μ μ' ∧ Got C gd w0 n (lone F0 cs w00) F cs μ' w' res := by
  have s1 := step_lone_go (hst.trans (apply_enter hk hrun))
  obtain ⟨e, w', fr, hR, hs, hfn, hl⟩ := hc (F :: cs)
  cases e with
  | returned V =>
    cases res with
    | ret v h' p =>
      obtain ⟨μ', a1, a2, a3, a4, a5⟩ := hR
      exact ⟨μ', w', a1, a2, a3, a4, V, a5, .head s1 (Steps.trans hs (.one (step_leave_returned hl)))⟩
    | panic v h' => exact hR.elim
  | panicked chain =>
    cases res with
    | ret v h' p => exact hR.elim
    | panic v h' =>
      obtain ⟨μ', V, a1, a2, a3, a4, a5, rfl⟩ := hR
      exact ⟨μ', w', a1, a2, a3, a4, V, a5, .head s1 (Steps.trans hs (.one (step_leave_panicked hl)))⟩
  | outgrown => cases res <;> exact hR.elim
theorem callM_sim {recv RECV : Value} {name : String} {args : List Value} {h : Heap} {res : FRes} (hc : callM C self recv name args h = some res) {μ : Mu} {w w00 : World} {ARGS CAP : Array Value} (hr : VRel μ recv RECV) (hA : VRels μ args ARGS.toList)
    (H : HRel (goodP C gd) w0 μ h w) (G : GRel C μ) {F F0 : Frame} {cs : List Frame} {S : Sem Next} (hk : noCall F.todo = true) (hrun : S.run C.P w = (callMethod RECV name ARGS).run C.P w)
    (hst : (stepG C.P true { frame := F0, callers := cs, status := .running, dying := none } w00).bare = (stepG.apply C.P true F cs none S w).bare) :
    ∃ μ' w', μ.le μ' ∧ Fresh h.next μ μ' ∧ Got C gd w0 h.next (lone F0 cs w00) F cs μ' w' res := by
  unfold callM at hc
  split at hc
  · rename_i t v
    obtain ⟨f, hf, h1⟩ := obind_eq hc
    obtain ⟨V, rfl, hv⟩ := hr.iface_inv
    have hA' : VRels μ (v :: args) (#[V] ++ ARGS).toList := by simpa using VRels.cons hv hA
    obtain ⟨⟨fn, f1, f2, f3⟩, hcall⟩ := callF_sim hOk hS h1 hA' H G
    refine got_of_calls hk ?_ hst hcall
    rw [hrun]
    have hpos : 0 < Made.depth := by decide
    obtain ⟨n, hn⟩ : ∃ n, C.P.types.size + Made.depth = n + 1 := ⟨C.P.types.size + (Made.depth - 1), by omega⟩
    simp only [callMethod, Sem.run_bind, run_program, Result.andThen_ok, hn, method_sim hOk.ok0 hf n, callFunc_run f1 f2 f3]
  · simp at hc
theorem yield_sim {l : Nat} {e : Spot} {args : List Value} {h : Heap} {res : FRes} (hc : yieldTo self l args h = some res) {μ : Mu} {w w00 : World} {ARGS : Array Value} (hl : μ l = some e) (hA : VRels μ args ARGS.toList)
    (H : HRel (goodP C gd) w0 μ h w) (G : GRel C μ) {F F0 : Frame} {cs : List Frame} {S : Sem Next} (hrun : S.run C.P w = (Instr.yield e.blk ARGS).run C.P w)
    (hst : (stepG C.P true { frame := F0, callers := cs, status := .running, dying := none } w00).bare = (stepG.apply C.P true F cs none S w).bare) :
    ∃ μ' w', μ.le μ' ∧ Fresh h.next μ μ' ∧ Got C gd w0 h.next (lone F0 cs w00) F cs μ' w' res := by
  have _ := hOk
  obtain ⟨r, hr, h1⟩ := obind_eq hc
  obtain ⟨o, ho, hlo⟩ := obind_eq hr
  have : o = .loop r := by
    unfold loopOf at hlo; split at hlo
    · simp at hlo; subst hlo; rfl
    · simp at hlo
  subst this
  obtain ⟨h2, h3⟩ := guardB_eq h1
  have hlen := Nat.eq_of_beq_eq_true h2
  obtain ⟨rr, hself, h4⟩ := obind_eq h3
  obtain ⟨j, hj, h5⟩ := obind_eq h4
  obtain ⟨hnd, h6⟩ := guardB_eq h5
  obtain ⟨x, hx, h7⟩ := obind_eq h6
  simp at h7; subst h7
  obtain ⟨o2, ho2, hlo2⟩ := obind_eq hx
  have : o2 = .loop x := by
    unfold loopOf at hlo2; split at hlo2
    · simp at hlo2; subst hlo2; rfl
    · simp at hlo2
  subst this
  obtain ⟨hge, L, hob, LR⟩ := H.obj l e _ hl ho
  have hps : L.params.toList.length = ARGS.toList.length := by rw [LR.params, ← hlen, hA.1]
  have hszz : ARGS.size = L.params.size := by simpa using hps.symm
  have hrun' : S.run C.P w = .ok (.round e.blk L.fn ((L.params.zip ARGS).foldl (fun tmps (t, a) => tmps.setIfInBounds t a) L.tmps) L.assign L.body) w := by
    rw [hrun]
    simp [Instr.yield, Instr.getLoop, getObj_of rfl hob, hszz]
  have s1 := step_lone_go (hst.trans (apply_round hrun'))
  have hT : TRel μ (setAll r.params args r.tmps) ((L.params.zip ARGS).foldl (fun tmps (t, a) => tmps.setIfInBounds t a) L.tmps) := by
    have := setAll_rel r.params hlen hA LR.tmps
    have e1 : (r.params.zip ARGS.toList).foldl (fun t p => t.setIfInBounds p.1 p.2) L.tmps = (L.params.zip ARGS).foldl (fun t p => t.setIfInBounds p.1 p.2) L.tmps := by
      rw [← LR.params, ← Array.toList_zip, Array.foldl_toList]
    rw [e1] at this
    exact this
  have hb0 : Frame.round e.blk L.fn ((L.params.zip ARGS).foldl (fun tmps (t, a) => tmps.setIfInBounds t a) L.tmps) L.assign L.body .normal =
      frm { (default : Frame) with fn := L.fn, kind := .normal, roundOf := some e.blk } ((L.params.zip ARGS).foldl (fun tmps (t, a) => tmps.setIfInBounds t a) L.tmps) [] [.code L.assign, .beginRound, .code L.body] := rfl
  rw [hb0, LR.assign, LR.body] at s1
  have N : PanRel μ CallKind.normal (F :: cs) none := by
    intro fr hk
    unfold tryRecover
    rw [hk]
  have gi : goodItems C gd [.code r.assign, .beginRound, .code r.body] :=
    goodItems.cons LR.goodA (goodItems.cons trivial (goodItems.cons LR.goodB (fun x hx => by simp at hx)))
  obtain ⟨s2, μ1, w1, t1, d1, cs1, nr, A, E⟩ := hS _ _ _ _ rr.1 rr.2.1 rr.2.2 hself gi μ w { (default : Frame) with fn := L.fn, kind := .normal, roundOf := some e.blk } (F :: cs) _ [] ⟨H, hT, trivial, ⟨e, hl, rfl⟩, N, G⟩
  have hs2 : s2 = rr.2.1 := by
    rcases nr with e | ⟨v, e, _⟩
    · exact e
    · rw [e] at hj; simp [jumpOf] at hj
  subst hs2
  have hcs : cs1 = F :: cs := by
    rcases A.pan with ⟨_, p2⟩ | ⟨v, c, rest, V', p1, _⟩
    · exact p2
    · simp at p1
  subst hcs
  cases hend : rr.1 with
  | panic v => rw [hend] at hj; simp [jumpOf] at hj
  | ended j' =>
    rw [hend] at hj E
    simp [jumpOf] at hj; subst hj
    obtain ⟨todo, hat, hs⟩ := E
    have hle := A.le _ _ hl
    obtain ⟨hge2, L2, hob2, LR2⟩ := A.st.H.obj l e _ hle ho2
    have hendR : ∀ jj : Option Code, (Instr.endRound e.blk jj).run C.P w1 = .ok (.bool jj.isNone) { w1 with heap := w1.heap.setIfInBounds e.blk (.loop { L2 with state := if jj.isNone then .ready else .done, pending := jj }) } := by
      intro jj
      simp [Instr.endRound, Instr.getLoop, getObj_of rfl hob2, setObj_of rfl hob2]
    have s3 : Go.step C.P (lone (frm { (default : Frame) with fn := L.fn, kind := .normal, roundOf := some e.blk } t1 d1 todo) (F :: cs) w1) =
        .next (lone (F.finish (.bool j'.isNone)) cs { w1 with heap := w1.heap.setIfInBounds e.blk (.loop { L2 with state := if j'.isNone then .ready else .done, pending := j' }) }) := by
      refine step_lone_go ?_
      unfold AtLeave at hat
      split at hat
      · subst hat; simp [stepG, stepG.exec, frm, hendR, doReturn]
      · obtain ⟨k, rfl⟩ := hat; simp [stepG, stepG.exec, frm, hendR, doReturn]
      · obtain ⟨k, rfl, hex⟩ := hat; simp [stepG, stepG.exec, frm, hendR, doReturn, hex]
      · exact hat.elim
    refine ⟨μ1, _, A.le, A.fresh, A.nx, A.st.H.turned hle ho2 rfl rfl (Turned.setObj hob2) ⟨hge2, _, rfl, ?_⟩, _, .plain _ rfl, .head s1 (hs.trans (.one s3))⟩
    refine { state := ?_, pending := rfl, tmps := LR2.tmps, params := LR2.params, assign := LR2.assign, body := LR2.body, goodA := LR2.goodA, goodB := LR2.goodB, goodP := ?_, defers := LR2.defers }
    · cases j' <;> rfl
    · intro c hc
      have hc : j' = some c := hc
      subst hc
      unfold AtLeave at hat
      split at hat
      · rename_i e; simp at e
      · rename_i e; simp at e; subst e; rfl
      · rename_i e; simp at e; subst e; rfl
      · exact hat.elim
theorem applyFn_sim {fn FN : Fn} {cap args : List Value} {h : Heap} {res : FRes} (hc : applyFn C self fn cap args h = some res) {μ : Mu} {w w00 : World} {ARGS CAP : Array Value} (hf : FnRel μ fn FN) (hcap : VRels μ cap CAP.toList) (hA : VRels μ args ARGS.toList)
    (H : HRel (goodP C gd) w0 μ h w) (G : GRel C μ) {F F0 : Frame} {cs : List Frame} {S : Sem Next} (hk : noCall F.todo = true) (hrun : S.run C.P w = (invoke (.fn FN CAP) ARGS).run C.P w)
    (hst : (stepG C.P true { frame := F0, callers := cs, status := .running, dying := none } w00).bare = (stepG.apply C.P true F cs none S w).bare) :
    ∃ μ' w', μ.le μ' ∧ Fresh h.next μ μ' ∧ Got C gd w0 h.next (lone F0 cs w00) F cs μ' w' res := by
  cases hf with
  | func f =>
    have hA' : VRels μ (args ++ cap) (ARGS ++ CAP).toList := by simpa using hA.append hcap
    obtain ⟨⟨fn, f1, f2, f3⟩, hcall⟩ := callF_sim hOk hS hc hA' H G
    refine got_of_calls hk ?_ hst hcall
    rw [hrun]
    exact callFunc_run f1 f2 f3 _ _
  | method name =>
    cases args with
    | nil => simp [applyFn] at hc
    | cons recv rest =>
      obtain ⟨RECV, REST, hAA, h1, h2⟩ := hA.cons_inv
      have hc : callM C self recv name rest h = some res := hc
      have h0 : ARGS[0]? = some RECV := by rw [← Array.getElem?_toList, hAA]; rfl
      have hx : (ARGS.extract 1 ARGS.size).toList = REST := by
        have hl : ARGS.size = REST.length + 1 := by have := congrArg List.length hAA; simpa using this
        simp [List.extract_eq_take_drop, hAA, hl]
      refine callM_sim hOk hS hc (CAP := CAP) (ARGS := ARGS.extract 1 ARGS.size) h1 (by rw [hx]; exact h2) H G hk ?_ hst
      rw [hrun]
      simp [invoke, h0]
  | yield l e hl => exact yield_sim hOk hS hc hl hA H G hrun hst
end
end Go.Am

namespace Go.Am
open Go
theorem aAppend_next {C : Ctx} {ts : List TypeId} {s x v : Value} {h h' : Heap} (ha : aAppend C ts s x h = some (v, h')) : h.next ≤ h'.next := by
  unfold aAppend at ha
  split at ha
  case h_2 => simp at ha
  obtain ⟨d, hd, h1⟩ := obind_eq ha
  obtain ⟨e, he, h2⟩ := obind_eq h1
  obtain ⟨i, hi, h3⟩ := obind_eq h2
  obtain ⟨du, hdu, h4⟩ := obind_eq h3
  obtain ⟨_, h5⟩ := guardB_eq h4
  obtain ⟨q, hq, h6⟩ := obind_eq h5
  obtain ⟨n, hn, h7⟩ := obind_eq h6
  obtain ⟨_, h8⟩ := guardB_eq h7
  cases n with
  | zero => simp at h8; rw [h8.2]; exact Nat.le_refl _
  | succ m =>
    simp only at h8
    obtain ⟨_, h9⟩ := guardB_eq h8
    obtain ⟨new, _, h10⟩ := obind_eq h9
    obtain ⟨_, h11⟩ := guardB_eq h10
    obtain ⟨_, h12⟩ := guardB_eq h11
    obtain ⟨g, hg, h13⟩ := obind_eq h12
    simp at h13
    obtain ⟨_, rfl⟩ := h13
    unfold growTo at hg
    split at hg
    · simp at hg; subst hg; simp
    · split at hg
      · simp at hg; subst hg; simp
      · obtain ⟨_, hg⟩ := guardB_eq hg
        obtain ⟨r, _, hg⟩ := obind_eq hg
        obtain ⟨_, hg⟩ := guardB_eq hg
        obtain ⟨old, _, hg⟩ := obind_eq hg
        simp at hg; subst hg; simp
theorem aStore_next {C : Ctx} {t : TypeId} {p v : Value} {h h' : Heap} (hs : aStore C t p v h = some h') : h'.next = h.next := by
  obtain ⟨a, ha, h1⟩ := obind_eq hs
  obtain ⟨⟨cells, esz⟩, hr, h2⟩ := obind_eq h1
  obtain ⟨n, hn, h3⟩ := obind_eq h2
  obtain ⟨h4, h5⟩ := guardB_eq h3
  obtain ⟨h6, h7⟩ := guardB_eq h5
  obtain ⟨l, hl, h8⟩ := obind_eq h7
  simp at h8; subst h8; rfl
def OAt (C : Ctx) (gd : List Oper → Bool) (w0 : World) (μ : Mu) (n : Nat) (s : FrS) (cs : List Frame) (rd : Option Nat) (b : Frame) (M0 : Machine) (todo : List Item) : ORes → Prop
  | .ok s' h' => ∃ μ' w' t' d' cs', Aft C gd w0 μ n s cs rd b s' h' μ' t' d' cs' w' ∧ Steps C.P M0 (lone (frm b t' d' todo) cs' w')
  | .panic v s' h' => ∃ s2 μ' w' t' d' cs', Near (.panic v) s' s2 ∧ Aft C gd w0 μ n s cs rd b s2 h' μ' t' d' cs' w' ∧ EndsAt C.P M0 b t' d' cs' w' μ' (.panic v)
theorem TRel.putT {μ : Mu} {s : FrS} {t : Array Value} (h : TRel μ s.tmps t) (dst : Option Tmp) {v V : Value} (hv : VRel μ v V) : TRel μ (s.put dst v).tmps (putT t dst V) := by
  cases dst with
  | none => exact h
  | some d => exact h.set d hv
theorem undef_rel (μ : Mu) : VRel μ undef undef := .tup' .nil
section
variable {C : Ctx} {gd : List Oper → Bool} {w0 : World} {μ : Mu} {s : FrS} {h : Heap} {rd : Option Nat} {b : Frame} {t : Array Value} {d : List Deferred} {cs : List Frame} {w : World}
theorem put_defers (s : FrS) (dst : Option Tmp) (v : Value) : (s.put dst v).defers = s.defers := by cases dst <;> rfl
theorem put_pan (s : FrS) (dst : Option Tmp) (v : Value) : (s.put dst v).pan = s.pan := by cases dst <;> rfl
theorem St.put (S : St C gd w0 μ s h rd b t d cs w) {μ' : Mu} {h' : Heap} {w' : World} (hle : μ.le μ') (H' : HRel (goodP C gd) w0 μ' h' w') (dst : Option Tmp) {v V : Value} (hv : VRel μ' v V) :
    St C gd w0 μ' (s.put dst v) h' rd b (putT t dst V) d cs w' :=
  ⟨H', (S.T.mono hle).putT dst hv, by rw [put_defers]; exact S.D.mono hle, S.R.mono hle, by rw [put_pan]; exact S.N.mono hle, S.G.mono hle⟩
theorem St.aft (S : St C gd w0 μ s h rd b t d cs w) {μ' : Mu} {h' : Heap} {w' : World} (hle : μ.le μ') (hfr : Fresh h.next μ μ') (hn : h.next ≤ h'.next) (H' : HRel (goodP C gd) w0 μ' h' w') (dst : Option Tmp) {v V : Value} (hv : VRel μ' v V) :
    Aft C gd w0 μ h.next s cs rd b (s.put dst v) h' μ' (putT t dst V) d cs w' :=
  ⟨hle, hfr, hn, S.put hle H' dst hv, by rw [put_pan]; exact Cs.refl _ _⟩
theorem St.same (S : St C gd w0 μ s h rd b t d cs w) {μ' : Mu} {h' : Heap} {w' : World} (hle : μ.le μ') (hfr : Fresh h.next μ μ') (hn : h.next ≤ h'.next) (H' : HRel (goodP C gd) w0 μ' h' w') :
    Aft C gd w0 μ h.next s cs rd b s h' μ' t d cs w' :=
  ⟨hle, hfr, hn, ⟨H', S.T.mono hle, S.D.mono hle, S.R.mono hle, S.N.mono hle, S.G.mono hle⟩, Cs.refl _ _⟩
variable {ops : Array Oper} {i : Nat} {rest : List Nat} {o : Oper} {k : List Item}
theorem at_value (S : St C gd w0 μ s h rd b t d cs w) (ho : ops[i]? = some o) (hw : Region.wanted o (yielded ops t) = true) (hd : ∀ c, o.op ≠ .defer c) {μ' : Mu} {h' : Heap} {w' : World} {v V : Value}
    (hr : (execOp (frm b t d (.inRegion ops (i :: rest) :: k)).eval o).run C.P w = .ok (.value V) w') (hle : μ.le μ') (hfr : Fresh h.next μ μ') (hn : h.next ≤ h'.next) (H' : HRel (goodP C gd) w0 μ' h' w') (hv : VRel μ' v V) :
    OAt C gd w0 μ h.next s cs rd b (lone (frm b t d (.inRegion ops (i :: rest) :: k)) cs w) (.inRegion ops rest :: k) (.ok (s.put o.dst v) h') :=
  ⟨μ', w', _, d, cs, S.aft hle hfr hn H' o.dst hv, .one (st_value ho hw (.inr hd) hr)⟩
theorem at_unit (S : St C gd w0 μ s h rd b t d cs w) (ho : ops[i]? = some o) (hw : Region.wanted o (yielded ops t) = true) (hd : ∀ c, o.op ≠ .defer c) {μ' : Mu} {h' : Heap} {w' : World}
    (hr : (execOp (frm b t d (.inRegion ops (i :: rest) :: k)).eval o).run C.P w = .ok .skip w') (hle : μ.le μ') (hfr : Fresh h.next μ μ') (hn : h.next ≤ h'.next) (H' : HRel (goodP C gd) w0 μ' h' w') :
    OAt C gd w0 μ h.next s cs rd b (lone (frm b t d (.inRegion ops (i :: rest) :: k)) cs w) (.inRegion ops rest :: k) (.ok (s.put o.dst undef) h') :=
  ⟨μ', w', _, d, cs, S.aft hle hfr hn H' o.dst (undef_rel _), .one (st_unit ho hw (.inr hd) hr)⟩
theorem at_got (S : St C gd w0 μ s h rd b t d cs w) (ho : ops[i]? = some o) {res : FRes} {r : ORes} (hr : ofRes s o.dst res = some r)
    (hg : ∃ μ' w', μ.le μ' ∧ Fresh h.next μ μ' ∧ Got C gd w0 h.next (lone (frm b t d (.inRegion ops (i :: rest) :: k)) cs w) (frm b t d (.inRegion ops (i :: rest) :: k)) cs μ' w' res) :
    OAt C gd w0 μ h.next s cs rd b (lone (frm b t d (.inRegion ops (i :: rest) :: k)) cs w) (.inRegion ops rest :: k) r := by
  obtain ⟨μ', w', hle, hfr, hg⟩ := hg
  cases res with
  | ret v h' p =>
    simp [ofRes] at hr; subst hr
    obtain ⟨hn, H', V, hv, hs⟩ := hg
    rw [frm_finish, ho] at hs
    exact ⟨μ', w', _, d, cs, S.aft hle hfr hn H' o.dst hv, hs⟩
  | panic v h' =>
    simp [ofRes] at hr; subst hr
    obtain ⟨hn, H', V, hv, hs⟩ := hg
    exact ⟨_, μ', w', t, d, cs, .inl rfl, S.same hle hfr hn H', _, V, hv, hs⟩
variable (hOk : C.Ok gd w0) {self : Self} (hS : SelfOK C gd w0 self)
include hOk hS
theorem eff_sim (S : St C gd w0 μ s h rd b t d cs w) (ho : ops[i]? = some o) (hw : Region.wanted o (yielded ops t) = true) (hgo : goodOp C o = true) {r : ORes} (he : effOp C self rd o.dst s h o.op = some r) :
    OAt C gd w0 μ h.next s cs rd b (lone (frm b t d (.inRegion ops (i :: rest) :: k)) cs w) (.inRegion ops rest :: k) r := by
  have hρ : ∀ x ∈ o.op.operands.toList, VRel μ (ev s.tmps x) ((frm b t d (.inRegion ops (i :: rest) :: k)).eval x) := fun x hx => ev_rel S.G S.T (List.all_eq_true.1 hgo x hx)
  have H := S.H
  have G := S.G
  have hap : ∀ hd : ∀ c, o.op ≠ .defer c, (stepG C.P true { frame := frm b t d (.inRegion ops (i :: rest) :: k), callers := cs, status := .running, dying := none } w).bare =
      (stepG.apply C.P true (frm b t d (.inRegion ops (i :: rest) :: k)) cs none (execOp (frm b t d (.inRegion ops (i :: rest) :: k)).eval o) w).bare := fun hd => by rw [stepG_oper ho hw (.inr hd)]
  generalize hev : (frm b t d (.inRegion ops (i :: rest) :: k)).eval = R at hρ hap
  cases hop : o.op <;> rw [hop] at he hρ <;> try (simp [effOp] at he; done)
  case store ty a v =>
    obtain ⟨h', hs, h1⟩ := obind_eq he
    simp [ofHeap] at h1; subst h1
    obtain ⟨w', hrun, H'⟩ := store_sim hOk.ok0 H (hρ a (by simp [Op.operands])) (hρ v (by simp [Op.operands])) hs
    exact at_unit S ho hw (by rw [hop]; simp) (by rw [hev]; simp [execOp, hop, hrun]) (fun _ _ a => a) (Fresh.refl _ _) (Nat.le_of_eq (aStore_next hs).symm) H'
  case mapUpdate ty m k' v =>
    obtain ⟨h', hs, h1⟩ := obind_eq he
    simp [ofHeap] at h1; subst h1
    obtain ⟨w', hrun, H', hn⟩ := mapUpdate_sim hOk.ok0 H (hρ m (by simp [Op.operands])) (hρ k' (by simp [Op.operands])) (hρ v (by simp [Op.operands])) hs
    exact at_unit S ho hw (by rw [hop]; simp) (by rw [hev]; simp [execOp, hop, hrun]) (fun _ _ a => a) (Fresh.refl _ _) (Nat.le_of_eq hn.symm) H'
  case insert ty m k' v =>
    obtain ⟨h', hs, h1⟩ := obind_eq he
    simp [ofHeap] at h1; subst h1
    obtain ⟨w', hrun, H', hn⟩ := mapUpdate_sim hOk.ok0 H (hρ m (by simp [Op.operands])) (hρ k' (by simp [Op.operands])) (hρ v (by simp [Op.operands])) hs
    exact at_unit S ho hw (by rw [hop]; simp) (by rw [hev]; simp [execOp, hop, hrun]) (fun _ _ a => a) (Fresh.refl _ _) (Nat.le_of_eq hn.symm) H'
  case range ty x =>
    have hx := hρ x (by simp [Op.operands])
    simp only [effOp] at he
    unfold rangeOp at he
    split at he
    · rename_i bs hbs
      rw [hbs] at hx
      obtain ⟨dd, hdd, h1⟩ := obind_eq he
      obtain ⟨hst, h2⟩ := guardB_eq h1
      simp at h2; subst h2
      obtain ⟨V, w', μ', hrun, hle, hfr, H', hv⟩ := range_sim hOk.ok0 H (b := bs) hdd hst
      exact at_value S ho hw (by rw [hop]; simp) (by rw [hev]; simp [execOp, hop, hx.string_inv, hrun]) hle hfr (by simp) H' hv
    · simp at he
  case next it bb =>
    obtain ⟨hb, h1⟩ := guardB_eq he
    subst hb
    obtain ⟨⟨v, h'⟩, hs, h2⟩ := obind_eq h1
    simp [ofVal] at h2; subst h2
    obtain ⟨V, w', hrun, H', hn, hv⟩ := next_sim (P := C.P) (ty := o.type) H (hρ it (by simp [Op.operands])) hs
    exact at_value S ho hw (by rw [hop]; simp) (by rw [hev]; simp [execOp, hop, hrun]) (fun _ _ a => a) (Fresh.refl _ _) (Nat.le_of_eq hn.symm) H' hv
  case panic x =>
    have hx := hρ x (by simp [Op.operands])
    simp only [effOp] at he
    unfold panicOp at he
    split at he
    · rename_i ty v hvv
      rw [hvv] at hx
      simp at he; subst he
      obtain ⟨U, hU, hu⟩ := hx.iface_inv
      refine ⟨_, μ, w, t, d, cs, .inl rfl, S.same (fun _ _ a => a) (Fresh.refl _ _) (Nat.le_refl _) H, _, .iface ty U, .iface _ _ _ hu, .one (st_panic ho hw (.inr (by rw [hop]; simp)) (v := .iface ty U) (by rw [hev]; simp [execOp, hop, hU, Instr.panic, goPanic]))⟩
    · simp at he
  case defer c =>
    simp only [effOp] at he
    unfold deferOp at he
    split at he
    · rename_i f hcal
      unfold deferVal at he
      split at he
      · rename_i fn first cap hval
        simp at he; subst he
        have hf := hρ f (by simp [Op.operands, Call.operands, hcal])
        rw [hval] at hf
        obtain ⟨FN, FIRST, CAP, hRf, hfn, hfi, hca⟩ := hf.func_inv
        have hargs : VRels μ (c.args.toList.map (ev s.tmps)) (c.args.toList.map R) := .map fun x hx => hρ x (by simp [Op.operands, Call.operands]; right; simpa using hx)
        have hro : b.roundOf = none := by
          have := S.R
          cases hb : b.roundOf with
          | none => rfl
          | some l => rw [hb] at this; exact this.elim
        have hrun : (execOp R o).run C.P w = .ok (.defer { target := .fn FN CAP, args := FIRST ++ c.args.map R }) w := by
          simp [execOp, hop, resolve, hcal, hRf, Deferred.ofValue]
        have hst : Go.step C.P (lone (frm b t d (.inRegion ops (i :: rest) :: k)) cs w) =
            .next (lone (frm b (putT t o.dst undef) ({ target := .fn FN CAP, args := FIRST ++ c.args.map R } :: d) (.inRegion ops rest :: k)) cs w) := by
          have e := frm_finish (b := b) (t := t) (d := { target := .fn FN CAP, args := FIRST ++ c.args.map R } :: d) (k := k) (ops := ops) (i := i) (rest := rest) undef
          rw [ho] at e
          simp only [Option.bind_some] at e
          rw [← e]
          refine step_lone_go ?_
          rw [stepG_oper ho hw (.inl hro), hev]
          simp only [stepG.apply, Sem.runT_eq, if_true, hrun, GStep.bare_after, GStep.bare_go]
          rfl
        refine ⟨μ, w, _, _, cs, ⟨fun _ _ a => a, Fresh.refl _ _, Nat.le_refl _, ?_, by rw [put_pan]; exact Cs.refl _ _⟩, .one hst⟩
        have S1 := S.put (fun _ _ a => a) H o.dst (undef_rel μ)
        refine ⟨H, ?_, ?_, S.R, by rw [put_pan]; exact S.N, S.G⟩
        · have := S1.T
          cases hd : o.dst <;> rw [hd] at this <;> exact this
        · rw [put_defers]
          refine ⟨⟨FN, CAP, rfl, hfn, hca, ?_⟩, S.D⟩
          simpa using hfi.append hargs
      · simp at he
    · simp at he
  case call c =>
    have hargs : VRels μ (c.args.toList.map (ev s.tmps)) (c.args.map R).toList := by
      have : (c.args.map R).toList = c.args.toList.map R := by simp
      rw [this]
      exact .map fun x hx => hρ x (by simp [Op.operands, Call.operands]; right; simpa using hx)
    simp only [effOp] at he
    unfold callOp at he
    have hnd : ∀ c, o.op ≠ .defer c := by rw [hop]; simp
    cases hcal : c.callee with
    | value f =>
      rw [hcal] at he
      simp only at he
      unfold callVal at he
      split at he
      · rename_i fn first cap hval
        obtain ⟨res, hres, h1⟩ := obind_eq he
        have hf := hρ f (by simp [Op.operands, Call.operands, hcal])
        rw [hval] at hf
        obtain ⟨FN, FIRST, CAP, hRf, hfn, hfi, hca⟩ := hf.func_inv
        have hA : VRels μ (first.toList ++ c.args.toList.map (ev s.tmps)) (FIRST ++ c.args.map R).toList := by simpa using hfi.append hargs
        refine at_got S ho h1 (applyFn_sim hOk hS hres hfn hca hA H G rfl ?_ (hap hnd))
        simp [execOp, hop, resolve, hcal, hRf, Deferred.ofValue]
      · simp at he
    | invoke rv name =>
      rw [hcal] at he
      simp only at he
      obtain ⟨res, hres, h1⟩ := obind_eq he
      have hf := hρ rv (by simp [Op.operands, Call.operands, hcal])
      refine at_got S ho h1 (callM_sim hOk hS hres (CAP := #[]) (ARGS := c.args.map R) hf hargs H G rfl ?_ (hap hnd))
      have e : (#[R rv] ++ c.args.map R).extract 1 (#[R rv] ++ c.args.map R).size = c.args.map R := by
        apply Array.ext'
        simp only [Array.toList_extract, Array.toList_append, List.extract_eq_take_drop]
        simp only [Array.size_append, List.size_toArray, List.length_cons, List.length_nil, Array.size_map, List.cons_append, List.nil_append, List.drop_succ_cons, List.drop_zero]
        exact List.take_of_length_le (by simp)
      have h0 : (#[R rv] ++ c.args.map R)[0]? = some (R rv) := by rw [← Array.getElem?_toList]; simp
      have e2 : (execOp R o).run C.P w = (invoke (.fn (.method name) #[]) (#[R rv] ++ c.args.map R)).run C.P w := by
        simp only [execOp, hop, resolve, hcal, Sem.run_bind, Sem.run_pure, Result.andThen_ok]
      rw [e2]
      simp only [invoke, h0, e]
    | builtin bb =>
      rw [hcal] at he
      simp only at he
      cases bb <;> simp only [callBuiltin] at he <;> try (simp at he; done)
      case append =>
        split at he
        · rename_i x y l hl
          obtain ⟨⟨v, h'⟩, hv, h1⟩ := obind_eq he
          simp [ofVal] at h1; subst h1
          rw [hl] at hargs
          obtain ⟨X, L, hL, hx, h2⟩ := hargs.cons_inv
          obtain ⟨Y, L', rfl, hy, _⟩ := h2.cons_inv
          obtain ⟨V, w', μ', hrun, hle, hfr, H', hvr⟩ := append_sim (ty := o.type) hOk.ok0 H (ARGS := c.args.map R) (by rw [← Array.getElem?_toList, hL]; rfl) (by rw [← Array.getElem?_toList, hL]; rfl) hx hy hv
          exact at_value S ho hw hnd (by rw [hev]; simp [execOp, hop, resolve, hcal, invoke, builtin, hrun]) hle hfr (aAppend_next hv) H' hvr
        · simp at he
      case copy =>
        split at he
        · rename_i x y l hl
          obtain ⟨⟨v, h'⟩, hv, h1⟩ := obind_eq he
          simp [ofVal] at h1; subst h1
          rw [hl] at hargs
          obtain ⟨X, L, hL, hx, h2⟩ := hargs.cons_inv
          obtain ⟨Y, L', rfl, hy, _⟩ := h2.cons_inv
          obtain ⟨w', hrun, H', hn, hp⟩ := copy_sim (ty := o.type) hOk.ok0 H (ARGS := c.args.map R) (by rw [← Array.getElem?_toList, hL]; rfl) (by rw [← Array.getElem?_toList, hL]; rfl) hx hy hv
          exact at_value S ho hw hnd (by rw [hev]; simp [execOp, hop, resolve, hcal, invoke, builtin, hrun]) (fun _ _ a => a) (Fresh.refl _ _) (Nat.le_of_eq hn.symm) H' (.plain _ hp)
        · simp at he
      case delete =>
        split at he
        · rename_i ty ts x y l hts hl
          obtain ⟨h', hv, h1⟩ := obind_eq he
          simp at h1; subst h1
          rw [hl] at hargs
          obtain ⟨X, L, hL, hx, h2⟩ := hargs.cons_inv
          obtain ⟨Y, L', rfl, hy, _⟩ := h2.cons_inv
          obtain ⟨w', hrun, H', hn⟩ := delete_sim (ty := o.type) hOk.ok0 H (ts := c.argTypes) (t := ty) (ARGS := c.args.map R) (by rw [← Array.getElem?_toList, hts]; rfl) (by rw [← Array.getElem?_toList, hL]; rfl) (by rw [← Array.getElem?_toList, hL]; rfl) hx hy hv
          exact at_value S ho hw hnd (by rw [hev]; simp [execOp, hop, resolve, hcal, invoke, builtin, hrun]) (fun _ _ a => a) (Fresh.refl _ _) (Nat.le_of_eq hn.symm) H' (.tup' .nil)
        · simp at he
      case recover =>
        unfold recoverOp at he
        cases rd with
        | some l => simp at he
        | none =>
          simp only at he
          have hro : b.roundOf = none := by
            have := S.R
            cases hb : b.roundOf with
            | none => rfl
            | some l => rw [hb] at this; exact this.elim
          have hrun : (execOp R o).run C.P w = .ok .recover w := by
            simp [execOp, hop, resolve, hcal, invoke, builtin]
          cases hp : s.pan with
          | none =>
            rw [hp] at he
            simp at he; subst he
            have N := S.N
            rw [hp] at N
            have hst : Go.step C.P (lone (frm b t d (.inRegion ops (i :: rest) :: k)) cs w) = .next (lone (frm b (putT t o.dst .nilIface) d (.inRegion ops rest :: k)) cs w) := by
              have e := frm_finish (b := b) (t := t) (d := d) (k := k) (ops := ops) (i := i) (rest := rest) .nilIface
              rw [ho] at e
              simp only [Option.bind_some] at e
              rw [← e]
              refine step_lone_go ?_
              rw [hap hnd]
              have ht := N (frm b t d (.inRegion ops (i :: rest) :: k)) rfl
              have hro' : (frm b t d (.inRegion ops (i :: rest) :: k)).roundOf = none := hro
              simp only [stepG.apply, Sem.runT_eq, if_true, hrun, GStep.bare_after, hro', ht, GStep.bare_go]
            exact ⟨μ, w, _, d, cs, S.aft (fun _ _ a => a) (Fresh.refl _ _) (Nat.le_refl _) H o.dst (.plain _ rfl), .one hst⟩
          | some v =>
            rw [hp] at he
            simp at he; subst he
            have N := S.N
            rw [hp] at N
            obtain ⟨hkind, c', rest', V, rfl, hv, hmode⟩ := N
            have hst : Go.step C.P (lone (frm b t d (.inRegion ops (i :: rest) :: k)) (c' :: rest') w) =
                .next (lone (frm b (putT t o.dst V) d (.inRegion ops rest :: k)) ({ c' with mode := .panicking [{ v := V, recovered := true }] } :: rest') w) := by
              have e := frm_finish (b := b) (t := t) (d := d) (k := k) (ops := ops) (i := i) (rest := rest) V
              rw [ho] at e
              simp only [Option.bind_some] at e
              rw [← e]
              refine step_lone_go ?_
              rw [hap hnd]
              have ht : tryRecover (frm b t d (.inRegion ops (i :: rest) :: k)) (c' :: rest') = some (V, { c' with mode := .panicking [{ v := V, recovered := true }] } :: rest') := by
                unfold tryRecover
                have : (frm b t d (.inRegion ops (i :: rest) :: k)).kind = .deferred := hkind
                rw [this]
                simp only [hmode]
              have hro' : (frm b t d (.inRegion ops (i :: rest) :: k)).roundOf = none := hro
              simp only [stepG.apply, Sem.runT_eq, if_true, hrun, GStep.bare_after, hro', ht, GStep.bare_go]
            refine ⟨μ, w, _, d, _, ⟨fun _ _ a => a, Fresh.refl _ _, Nat.le_refl _, ⟨H, S.T.putT o.dst hv, S.D, S.R, ?_, S.G⟩, .inr ⟨v, c', rest', V, hp, rfl, rfl, hmode, rfl⟩⟩, .one hst⟩
            intro fr hk
            unfold tryRecover
            rw [hk, hkind]
end
end Go.Am

namespace Go.Am
open Go
section
variable {C : Ctx} {gd : List Oper → Bool} {w0 : World} {μ : Mu} {s : FrS} {h : Heap} {rd : Option Nat} {b : Frame} {t : Array Value} {d : List Deferred} {cs : List Frame} {w : World}
theorem SelfOK.cont {self : Self} (hS : SelfOK C gd w0 self) {n : Nat} {s1 : FrS} {h1 : Heap} {μ1 : Mu} {t1 : Array Value} {d1 : List Deferred} {cs1 : List Frame} {w1 : World} {M0 : Machine} {k1 : List Item} {r : FEnd} {s' : FrS} {h' : Heap}
    (A : Aft C gd w0 μ n s cs rd b s1 h1 μ1 t1 d1 cs1 w1) (hs : Steps C.P M0 (lone (frm b t1 d1 k1) cs1 w1)) (he : self rd k1 s1 h1 = some (r, s', h')) (gk : goodItems C gd k1) :
    ∃ s2 μ' w' tmps' ds' cs', Near r s' s2 ∧ Aft C gd w0 μ n s cs rd b s2 h' μ' tmps' ds' cs' w' ∧ EndsAt C.P M0 b tmps' ds' cs' w' μ' r := by
  obtain ⟨s2, μ', w', t', d', cs', nr, A', E'⟩ := hS rd k1 s1 h1 r s' h' he gk μ1 w1 b cs1 t1 d1 A.st
  exact ⟨s2, μ', w', t', d', cs', nr, A.trans A', E'.of_steps hs⟩
theorem VRel.bool_iff {v V : Value} (hv : VRel μ v V) (c : Bool) : v = .bool c ↔ V = .bool c := by
  constructor
  · rintro rfl; exact hv.bool_inv
  · rintro rfl; cases hv; rfl
theorem boolIs_iff (want : Bool) (v : Value) : boolIs want v = true ↔ v = .bool want := by
  cases v <;> simp [boolIs]
theorem wanted_eq {τ : List (List Value)} (hT : TRel μ τ t) (ops : Array Oper) (o : Oper) : wantedA ops.toList o τ = Region.wanted o (yielded ops t) := by
  unfold wantedA Region.wanted
  cases hg : o.guard with
  | none => rfl
  | some q =>
    obtain ⟨j, want⟩ := q
    simp only
    unfold wantedBy yielded
    rw [lget_eq, Array.getElem?_toList]
    cases hj : ops[j]? with
    | none => simp
    | some g =>
      simp only [obind_some, Option.bind_some]
      cases hd : g.dst with
      | none => simp
      | some x =>
        simp only [Option.bind_some]
        have hx := (hT x).1
        rw [Bool.eq_iff_iff, boolIs_iff, hx.bool_iff]
        rw [Array.getD_eq_getD_getElem?]
        cases hv : t[x]? with
        | none => simp [undef]
        | some V =>
          simp only [Option.getD_some]
          cases V <;> simp
variable {ops : Array Oper} {i : Nat} {rest : List Nat} {o : Oper} {k : List Item}
theorem early_at (hOk : C.Ok gd w0) (S : St C gd w0 μ s h rd b t d cs w) (ho : ops[i]? = some o) (hw : Region.wanted o (yielded ops t) = true) (hgo : goodOp C o = true) {e : EV} (he : earlyVal C (ev s.tmps) h o.op = some e) {r : ORes} (hr : putEV o.dst s h e = some r) :
    OAt C gd w0 μ h.next s cs rd b (lone (frm b t d (.inRegion ops (i :: rest) :: k)) cs w) (.inRegion ops rest :: k) r := by
  have hρ : ∀ x ∈ o.op.operands.toList, VRel μ (ev s.tmps x) ((frm b t d (.inRegion ops (i :: rest) :: k)).eval x) := fun x hx => ev_rel S.G S.T (List.all_eq_true.1 hgo x hx)
  have hd : ∀ c, o.op ≠ .defer c := by intro c e'; rw [e'] at he; simp [earlyVal] at he
  have hE := early_sim hOk.ok0 S.H hρ he
  cases e with
  | val v =>
    simp [putEV] at hr; subst hr
    obtain ⟨V, w', hrun, hq, hv⟩ := hE
    exact at_value S ho hw hd hrun (fun _ _ a => a) (Fresh.refl _ _) (Nat.le_refl _) (S.H.quiet hq) hv
  | new x mk =>
    obtain ⟨_, hr⟩ := guardB_eq hr
    simp at hr; subst hr
    obtain ⟨V, w', O, lim, esz, hrun, hg, hx⟩ := hE
    have hf := S.H.fresh
    have hpos := S.H.pos
    obtain ⟨h1, h2⟩ := hx h.next hf (by omega)
    exact at_value S ho hw hd hrun (Mu.le_upd _ hf) (Fresh.upd _ _ (Nat.le_refl _)) (by simp) ((S.H.allocA x).grew lim esz hf (by omega) (by simp) (Heap.get_alloc_self _ _) hg h1) h2
theorem do_at (hOk : C.Ok gd w0) {self : Self} (hS : SelfOK C gd w0 self) (S : St C gd w0 μ s h rd b t d cs w) (ho : ops[i]? = some o) (hw : Region.wanted o (yielded ops t) = true) (hgo : goodOp C o = true) {r : ORes} (hr : doOp C self rd o s h = some r) :
    OAt C gd w0 μ h.next s cs rd b (lone (frm b t d (.inRegion ops (i :: rest) :: k)) cs w) (.inRegion ops rest :: k) r := by
  unfold doOp at hr
  split at hr
  · exact eff_sim hOk hS S ho hw hgo hr
  · obtain ⟨e, he, h1⟩ := obind_eq hr
    exact early_at hOk S ho hw hgo he h1
theorem OAt.trans {n : Nat} {s1 : FrS} {h1 : Heap} {μ1 : Mu} {t1 : Array Value} {d1 : List Deferred} {cs1 : List Frame} {w1 : World} {M0 : Machine} {k1 todo : List Item} {r : ORes}
    (A : Aft C gd w0 μ n s cs rd b s1 h1 μ1 t1 d1 cs1 w1) (hs : Steps C.P M0 (lone (frm b t1 d1 k1) cs1 w1)) (h : OAt C gd w0 μ1 h1.next s1 cs1 rd b (lone (frm b t1 d1 k1) cs1 w1) todo r) :
    OAt C gd w0 μ n s cs rd b M0 todo r := by
  cases r with
  | ok s' h' => obtain ⟨μ', w', t', d', cs', A', hs'⟩ := h; exact ⟨μ', w', t', d', cs', A.trans A', hs.trans hs'⟩
  | panic v s' h' => obtain ⟨s2, μ', w', t', d', cs', nr, A', E⟩ := h; exact ⟨s2, μ', w', t', d', cs', nr, A.trans A', E.of_steps hs⟩
theorem runOps_cons (C : Ctx) (self : Self) (rd : Option Nat) (ops : List Oper) (o : Oper) (l : List Oper) (s : FrS) (h : Heap) : runOps C self rd ops (o :: l) s h = runOp C self rd ops o (runOps C self rd ops l) s h := rfl
theorem ops_at (hOk : C.Ok gd w0) {self : Self} (hS : SelfOK C gd w0 self) (hgo : ∀ o ∈ ops.toList, goodOp C o = true) : ∀ (l : List Oper) (pre : List Oper), ops.toList = pre ++ l → ∀ {μ : Mu} {s : FrS} {h : Heap} {t : Array Value} {d : List Deferred} {cs : List Frame} {w : World} {r : ORes},
    runOps C self rd ops.toList l s h = some r → St C gd w0 μ s h rd b t d cs w → OAt C gd w0 μ h.next s cs rd b (lone (frm b t d (.inRegion ops (List.range' pre.length l.length) :: k)) cs w) k r
  | [], pre, hp, μ, s, h, t, d, cs, w, r, hr, S => by
    have : r = .ok s h := by simpa [runOps, lrec_nil] using hr.symm
    subst this
    exact ⟨μ, w, t, d, cs, Aft.refl S, .one st_regionEnd⟩
  | o :: l, pre, hp, μ, s, h, t, d, cs, w, r, hr, S => by
    rw [runOps_cons] at hr
    have ho : ops[pre.length]? = some o := by rw [← Array.getElem?_toList, hp]; simp
    have hp' : ops.toList = (pre ++ [o]) ++ l := by rw [hp]; simp
    have hl : (pre ++ [o]).length = pre.length + 1 := by simp
    rw [List.length_cons, List.range'_succ]
    unfold runOp at hr
    split at hr
    · rename_i hwa
      have hw : Region.wanted o (yielded ops t) = true := by rw [← wanted_eq S.T]; exact hwa
      obtain ⟨r1, hr1, h2⟩ := obind_eq hr
      have A1 := do_at (k := k) (rest := List.range' (pre.length + 1) l.length) hOk hS S ho hw (hgo o (by rw [hp]; simp)) hr1
      cases r1 with
      | ok s1 h1 =>
        obtain ⟨μ1, w1, t1, d1, cs1, A, hs⟩ := A1
        have h2 : runOps C self rd ops.toList l s1 h1 = some r := h2
        have := ops_at hOk hS hgo l (pre ++ [o]) hp' h2 A.st
        rw [hl] at this
        exact OAt.trans A hs this
      | panic v s1 h1 =>
        have h2 : some (ORes.panic v s1 h1) = some r := h2
        simp at h2; subst h2
        exact A1
    · rename_i hwa
      have hw : Region.wanted o (yielded ops t) = false := by rw [← wanted_eq S.T]; exact hwa
      have A := S.aft (fun _ _ a => a) (Fresh.refl _ _) (Nat.le_refl _) S.H o.dst (undef_rel μ)
      have := ops_at hOk hS hgo l (pre ++ [o]) hp' hr A.st
      rw [hl] at this
      exact OAt.trans A (.one (st_opSkip ho hw)) this
end
def DrawOK (C : Ctx) (gd : List Oper → Bool) (w0 : World) (self : Self) : Prop :=
  ∀ (ops : Array Oper) (rd : Option Nat) (s : FrS) (h : Heap) (r : ORes), runPlan C self rd ops.toList (planOf ops.toList) [] s h = some r → gd ops.toList = true → (∀ o ∈ ops.toList, goodOp C o = true) →
    ∀ μ w b cs t d k x, St C gd w0 μ s h rd b t d cs w → OAt C gd w0 μ h.next s cs rd b (lone (frm b t d (.inRegion ops (Region.schedule (C.P.follows .mixedOrders) ops x) :: k)) cs w) k r
section
variable {C : Ctx} {gd : List Oper → Bool} {w0 : World}
theorem loopOf_eq {o : AObj} {r : ALoop} (h : loopOf o = some r) : o = .loop r := by
  unfold loopOf at h; split at h
  · simp at h; subst h; rfl
  · simp at h
theorem enterLoop_sim {μ : Mu} {s : FrS} {h : Heap} {rd : Option Nat} {b : Frame} {t : Array Value} {d : List Deferred} {cs : List Frame} {w : World} (S : St C gd w0 μ s h rd b t d cs w) {params : Array Tmp} {assign body : Code} {q : Nat × List Deferred × Heap}
    (ga : goodCode C gd assign = true) (gb : goodCode C gd body = true) (hq : enterLoopA rd s.tmps params.toList assign body h = some q) :
    ∃ L mark w' μ' e, (Instr.enterLoop b.fn t params assign body b.roundOf).run C.P w = .ok (L, mark) w' ∧ μ' q.1 = some e ∧ L = e.blk ∧ DRels μ' q.2.1 mark ∧ μ.le μ' ∧ Fresh h.next μ μ' ∧ h.next ≤ q.2.2.next ∧ HRel (goodP C gd) w0 μ' q.2.2 w' := by
  have hf := S.H.fresh
  have hpos := S.H.pos
  cases rd with
  | none =>
    have hro : b.roundOf = none := by
      have := S.R
      cases hb : b.roundOf with
      | none => rfl
      | some l => rw [hb] at this; exact this.elim
    simp [enterLoopA] at hq; subst hq
    have H1 : HRel (goodP C gd) w0 (μ.upd h.next ⟨w.heap.size, 0, 0, 0⟩) (h.alloc (.deferred true)) (w.alloc (.deferred (some []))) :=
      (S.H.allocA (.deferred true)).grew 0 0 hf (by omega) (by simp) (Heap.get_alloc_self _ _) (Grew.alloc w _) ⟨S.H.size, rfl⟩
    have hf1 := H1.fresh
    simp only [Heap.next_alloc] at hf1
    have hle1 : μ.le (μ.upd h.next ⟨w.heap.size, 0, 0, 0⟩) := Mu.le_upd _ hf
    have hle2 : (μ.upd h.next ⟨w.heap.size, 0, 0, 0⟩).le ((μ.upd h.next ⟨w.heap.size, 0, 0, 0⟩).upd (h.next + 1) ⟨(w.alloc (.deferred (some []))).heap.size, 0, 0, 0⟩) := Mu.le_upd _ hf1
    have H2 : HRel (goodP C gd) w0 ((μ.upd h.next ⟨w.heap.size, 0, 0, 0⟩).upd (h.next + 1) ⟨(w.alloc (.deferred (some []))).heap.size, 0, 0, 0⟩) ((h.alloc (.deferred true)).alloc (.loop (loopRec s.tmps params.toList assign body h.next)))
        ((w.alloc (.deferred (some []))).alloc (.loop { state := .ready, pending := none, fn := b.fn, tmps := t, params, assign, body, defers := w.heap.size })) := by
      refine (H1.allocA (.loop (loopRec s.tmps params.toList assign body h.next))).grew 0 0 hf1 (by omega) (by simp) (Heap.get_alloc_self _ _) (Grew.alloc _ _) ⟨H1.size, _, rfl, ?_⟩
      exact { state := rfl, pending := rfl, tmps := S.T.mono (hle1.trans hle2), params := rfl, assign := rfl, body := rfl, goodA := ga, goodB := gb, goodP := (by intro c hc; cases hc), defers := ⟨_, hle2 _ _ (Mu.upd_self _ _ _), rfl⟩ }
    refine ⟨_, [{ target := .collected w.heap.size, args := #[] }], _, _, _, ?_, Mu.upd_self _ _ _, rfl, ?_, hle1.trans hle2, ?_, by simp only [Heap.next_alloc]; omega, H2⟩
    · simp [Instr.enterLoop, hro]
    · exact ⟨⟨_, hle2 _ _ (Mu.upd_self _ _ _), rfl⟩, trivial⟩
    · exact Fresh.trans (m := h.next + 1) (by omega) (Fresh.upd _ _ (Nat.le_refl _)) (Fresh.upd _ _ (Nat.le_refl _))
  | some l =>
    obtain ⟨r, hr, h1⟩ := obind_eq hq
    obtain ⟨o, ho, hlo⟩ := obind_eq hr
    obtain rfl := loopOf_eq hlo
    simp at h1; subst h1
    obtain ⟨L0, hro, e, he, rfl⟩ : ∃ L0, b.roundOf = some L0 ∧ ∃ e, μ l = some e ∧ L0 = e.blk := by
      have := S.R
      cases hb : b.roundOf with
      | none => rw [hb] at this; exact this.elim
      | some l0 => rw [hb] at this; exact ⟨l0, rfl, this⟩
    obtain ⟨hge, L, hob, LR⟩ := S.H.obj l e _ he ho
    obtain ⟨de, hde, hdl⟩ := LR.defers
    have hle : μ.le (μ.upd h.next ⟨w.heap.size, 0, 0, 0⟩) := Mu.le_upd _ hf
    refine ⟨w.heap.size, [], w.alloc (.loop { state := .ready, pending := none, fn := b.fn, tmps := t, params, assign, body, defers := L.defers }), μ.upd h.next ⟨w.heap.size, 0, 0, 0⟩, ⟨w.heap.size, 0, 0, 0⟩, ?_, Mu.upd_self _ _ _, rfl, trivial, hle, Fresh.upd _ _ (Nat.le_refl _), by simp, ?_⟩
    · simp [Instr.enterLoop, hro, Instr.getLoop, getObj_of rfl hob]
    · refine (S.H.allocA (.loop (loopRec s.tmps params.toList assign body r.defers))).grew 0 0 hf (by omega) (by simp) (Heap.get_alloc_self _ _) (Grew.alloc _ _) ⟨S.H.size, _, rfl, ?_⟩
      exact { state := rfl, pending := rfl, tmps := S.T.mono hle, params := rfl, assign := rfl, body := rfl, goodA := ga, goodB := gb, goodP := (by intro c hc; cases hc), defers := ⟨de, hle _ _ hde, hdl⟩ }
end
end Go.Am
