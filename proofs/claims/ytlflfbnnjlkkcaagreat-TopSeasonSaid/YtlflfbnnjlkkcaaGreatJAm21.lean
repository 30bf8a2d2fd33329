/- Parts Am21, Am22, Am23 of the abstract machine over this program, joined: what each part says stands at its head. -/
import Derived.Test.YtlflfbnnjlkkcaaGreatJAm18
set_option linter.unusedSimpArgs false
set_option linter.unusedVariables false
set_option linter.defProp false
namespace Go.Am
open Go
section
variable {C : Ctx} {gd : List Oper → Bool} {w0 : World} (hOk : C.Ok gd w0) {self : Self} (hS : SelfOK C gd w0 self) (hD : DrawOK C gd w0 self)
include hOk hS hD
def Goal (C : Ctx) (gd : List Oper → Bool) (w0 : World) (μ : Mu) (n : Nat) (s : FrS) (cs : List Frame) (rd : Option Nat) (b : Frame) (M0 : Machine) (r : FEnd) (s' : FrS) (h' : Heap) : Prop :=
  ∃ s2 μ' w' tmps' ds' cs', Near r s' s2 ∧ Aft C gd w0 μ n s cs rd b s2 h' μ' tmps' ds' cs' w' ∧ EndsAt C.P M0 b tmps' ds' cs' w' μ' r
theorem region_sim {μ : Mu} {s : FrS} {h : Heap} {rd : Option Nat} {b : Frame} {t : Array Value} {d : List Deferred} {cs : List Frame} {w : World} (S : St C gd w0 μ s h rd b t d cs w) {id : Nat} {ops : Array Oper} {draw : Bool} {k : List Item}
    (hg : goodRegion C gd ops.toList draw = true) (gk : goodItems C gd k) {r : FEnd} {s' : FrS} {h' : Heap} (hr : stRegion C self rd ops.toList k s h draw = some (r, s', h')) :
    Goal C gd w0 μ h.next s cs rd b (lone (frm b t d (.code (.region id ops draw) :: k)) cs w) r s' h' := by
  obtain ⟨hg1, hg2⟩ := (Bool.and_eq_true _ _).mp hg
  have hgo : ∀ o ∈ ops.toList, goodOp C o = true := List.all_eq_true.1 hg1
  have fin : ∀ {μ1 : Mu} {w1 : World} {ro : ORes} {M1 : Machine}, Steps C.P (lone (frm b t d (.code (.region id ops draw) :: k)) cs w) M1 → afterOps self rd k ro = some (r, s', h') → OAt C gd w0 μ h.next s cs rd b M1 k ro →
      Goal C gd w0 μ h.next s cs rd b (lone (frm b t d (.code (.region id ops draw) :: k)) cs w) r s' h' := by
    intro μ1 w1 ro M1 hs hro hO
    cases ro with
    | ok s1 h1 =>
      obtain ⟨μ', w', t', d', cs', A, hs2⟩ := hO
      exact hS.cont A (hs.trans hs2) hro gk
    | panic v s1 h1 =>
      simp [afterOps] at hro
      obtain ⟨rfl, rfl, rfl⟩ := hro
      obtain ⟨s2, μ', w', t', d', cs', nr, A, E⟩ := hO
      exact ⟨s2, μ', w', t', d', cs', nr, A, E.of_steps hs⟩
  cases draw with
  | false =>
    obtain ⟨ro, h1, h2⟩ := obind_eq hr
    have := ops_at (k := k) (rd := rd) (b := b) hOk hS hgo ops.toList [] rfl h1 S
    refine fin (μ1 := μ) (w1 := w) (.one st_region) h2 ?_
    have e : List.range ops.size = List.range' 0 ops.toList.length := by simp [List.range_eq_range']
    rw [e]
    exact this
  | true =>
    obtain ⟨ro, h1, h2⟩ := obind_eq hr
    have S1 : St C gd w0 μ s h rd b t d cs w.drew := ⟨S.H.quiet (Quiet.drew w), S.T, S.D, S.R, S.N, S.G⟩
    exact fin (μ1 := μ) (w1 := w) (.one st_draw) h2 (hD ops rd s h ro h1 hg2 hgo μ w.drew b cs t d k _ S1)
theorem range_func_sim {μ : Mu} {s : FrS} {h : Heap} {rd : Option Nat} {b : Frame} {t : Array Value} {d : List Deferred} {cs : List Frame} {w : World} (S : St C gd w0 μ s h rd b t d cs w) {f : Operand} {params : Array Tmp} {assign body : Code} {k : List Item}
    (gf : goodO C f = true) (ga : goodCode C gd assign = true) (gb : goodCode C gd body = true) (gk : goodItems C gd k) {r : FEnd} {s' : FrS} {h' : Heap} (hr : stRange C self rd params.toList assign body k s h (ev s.tmps f) = some (r, s', h')) :
    Goal C gd w0 μ h.next s cs rd b (lone (frm b t d (.code (.rangeFunc f params assign body) :: k)) cs w) r s' h' := by
  have _ := hD
  unfold stRange at hr
  split at hr
  case h_2 => simp at hr
  rename_i fn first cap hval
  obtain ⟨q, hq, h1⟩ := obind_eq hr
  obtain ⟨res, hres, h2⟩ := obind_eq h1
  obtain ⟨L, mark, w1, μ1, e, hrun, he, rfl, hmark, hle, hfr, hn, H1⟩ := enterLoop_sim (params := params) S ga gb hq
  have hf := ev_rel (b := b) (ds := mark ++ d) (todo := .inRangeFunc e.blk :: k) S.G S.T gf
  rw [hval] at hf
  obtain ⟨FN, FIRST, CAP, hRf, hfn, hfi, hca⟩ := hf.func_inv
  have hyl : VRel μ1 (.func (.yield q.1) ⟨[]⟩ ⟨[]⟩) (.func (.yield e.blk) #[] #[]) := .func _ _ _ _ _ _ (.yield _ e he) rfl rfl (fun i x X a _ => by simp at a) (fun i x X a _ => by simp at a)
  have hA : VRels μ1 (first.toList ++ [Value.func (.yield q.1) ⟨[]⟩ ⟨[]⟩]) (FIRST ++ #[Value.func (.yield e.blk) #[] #[]]).toList := by
    simpa using (hfi.mono hle).append (VRels.cons hyl .nil)
  have hrun2 : (do let dd ← resolve (frm b t (mark ++ d) (.inRangeFunc e.blk :: k)).eval { callee := .value f, args := #[.const (.func (.yield e.blk) #[] #[])], argTypes := #[] } 0; invoke dd.target dd.args : Sem Next).run C.P w1 =
      (invoke (.fn FN CAP) (FIRST ++ #[Value.func (.yield e.blk) #[] #[]])).run C.P w1 := by
    have hmap : (#[Operand.const (.func (.yield e.blk) #[] #[])] : Array Operand).map (frm b t (mark ++ d) (.inRangeFunc e.blk :: k)).eval = #[Value.func (.yield e.blk) #[] #[]] := by simp [Frame.eval]
    simp only [resolve, hmap, hRf, Deferred.ofValue, Sem.run_bind, Sem.run_pure, Result.andThen_ok]
  have hst : (stepG C.P true { frame := frm b t d (.code (.rangeFunc f params assign body) :: k), callers := cs, status := .running, dying := none } w).bare =
      (stepG.apply C.P true (frm b t (mark ++ d) (.inRangeFunc e.blk :: k)) cs none (do let dd ← resolve (frm b t (mark ++ d) (.inRangeFunc e.blk :: k)).eval { callee := .value f, args := #[.const (.func (.yield e.blk) #[] #[])], argTypes := #[] } 0; invoke dd.target dd.args) w1).bare := by
    simp only [stepG, stepG.exec, frm, Sem.runT_eq, hrun, GStep.bare_after]
  obtain ⟨μ2, w2, hle2, hfr2, hg⟩ := applyFn_sim hOk hS hres (hfn.mono' hle) (hca.mono hle) hA H1 (S.G.mono hle) rfl hrun2 hst
  cases res with
  | panic v h2' =>
    simp [afterRange] at h2
    obtain ⟨rfl, rfl, rfl⟩ := h2
    obtain ⟨hn2, H2, V, hv, hs⟩ := hg
    refine ⟨_, μ2, w2, t, mark ++ d, cs, .inl rfl, ⟨hle.trans hle2, Fresh.trans hn hfr hfr2, Nat.le_trans hn hn2, ⟨H2, S.T.mono (hle.trans hle2), (hmark.mono hle2).append (S.D.mono (hle.trans hle2)), S.R.mono (hle.trans hle2), S.N.mono (hle.trans hle2), S.G.mono (hle.trans hle2)⟩, Cs.refl _ _⟩, _, V, hv, hs⟩
  | ret v h2' p =>
    obtain ⟨hn2, H2, V, hv, hs⟩ := hg
    have h2 : endLoopA self rd k s q.1 q.2.1 h2' = some (r, s', h') := h2
    obtain ⟨x, hx, h3⟩ := obind_eq h2
    obtain ⟨o, ho, hlo⟩ := obind_eq hx
    obtain rfl := loopOf_eq hlo
    obtain ⟨hb, h4⟩ := guardB_eq h3
    have he2 := hle2 _ _ he
    obtain ⟨hge, L, hob, LR⟩ := H2.obj _ e _ he2 ho
    have hst : ¬ L.state = .busy := by
      rw [LR.state]
      cases hx : x.state <;> rw [hx] at hb <;> first | (simp; done) | (simp [isBusy] at hb)
    have hend : (Instr.endLoop e.blk).run C.P w2 = .ok x.pending { w2 with heap := w2.heap.setIfInBounds e.blk (.loop { L with state := .exhausted }) } := by
      simp [Instr.endLoop, Instr.getLoop, getObj_of rfl hob, setObj_of rfl hob, hst, LR.pending]
    have H3 : HRel (goodP C gd) w0 μ2 (h2'.set q.1 (.loop (x.turn .exhausted x.pending))) { w2 with heap := w2.heap.setIfInBounds e.blk (.loop { L with state := .exhausted }) } :=
      H2.turned he2 ho rfl rfl (Turned.setObj hob) ⟨hge, _, rfl, { LR with state := rfl }⟩
    have hk2 : goodItems C gd (itemsOf x.pending k) := by
      cases hp : x.pending with
      | none => exact gk
      | some c => exact goodItems.cons (LR.goodP c hp) gk
    have hitems : (x.pending.map Item.code).toList ++ k = itemsOf x.pending k := by cases x.pending <;> rfl
    have s3 : Go.step C.P (lone ((frm b t (mark ++ d) (.inRangeFunc e.blk :: k)).finish V) cs w2) =
        .next (lone (frm b t (mark ++ d) (itemsOf x.pending k)) cs { w2 with heap := w2.heap.setIfInBounds e.blk (.loop { L with state := .exhausted }) }) := by
      rw [← hitems]
      exact step_lone_go (by simp [stepG, stepG.exec, frm, Frame.finish, hend])
    have A : Aft C gd w0 μ h.next s cs rd b (s.mark q.2.1) (h2'.set q.1 (.loop (x.turn .exhausted x.pending))) μ2 t (mark ++ d) cs { w2 with heap := w2.heap.setIfInBounds e.blk (.loop { L with state := .exhausted }) } :=
      ⟨hle.trans hle2, Fresh.trans hn hfr hfr2, Nat.le_trans hn hn2, ⟨H3, S.T.mono (hle.trans hle2), (hmark.mono hle2).append (S.D.mono (hle.trans hle2)), S.R.mono (hle.trans hle2), S.N.mono (hle.trans hle2), S.G.mono (hle.trans hle2)⟩, Cs.refl _ _⟩
    exact hS.cont A (hs.trans (.one s3)) h4 hk2
theorem code_sim {μ : Mu} {s : FrS} {h : Heap} {rd : Option Nat} {b : Frame} {t : Array Value} {d : List Deferred} {cs : List Frame} {w : World} (S : St C gd w0 μ s h rd b t d cs w) {c : Code} {k : List Item}
    (gc : goodCode C gd c = true) (gk : goodItems C gd k) {r : FEnd} {s' : FrS} {h' : Heap} (hr : stCode C self rd k s h c = some (r, s', h')) :
    Goal C gd w0 μ h.next s cs rd b (lone (frm b t d (.code c :: k)) cs w) r s' h' := by
  have A := Aft.refl S
  cases c <;> simp only [stCode] at hr <;> try (simp at hr; done)
  case skip => exact hS.cont A (.one st_skip) hr gk
  case label l => exact hS.cont A (.one st_label) hr gk
  case ret =>
    simp at hr
    obtain ⟨rfl, rfl, rfl⟩ := hr
    exact ⟨_, μ, w, t, d, cs, .inl rfl, A, _, ⟨k, rfl⟩, .refl _ _⟩
  case seq x y =>
    obtain ⟨g1, g2⟩ := (Bool.and_eq_true _ _).mp gc
    exact hS.cont A (.one st_seq) hr (goodItems.cons g1 (goodItems.cons g2 gk))
  case block id x => exact hS.cont A (.one st_block) hr (goodItems.cons gc (goodItems.cons trivial gk))
  case loop x => exact hS.cont A (.one st_loop) hr (goodItems.cons gc (goodItems.cons gc gk))
  case scope x => exact hS.cont A (.one st_scope) hr (goodItems.cons gc (goodItems.cons trivial gk))
  case exit id =>
    unfold stExit at hr
    cases hx : exitTo id k with
    | some k' =>
      rw [hx] at hr
      exact hS.cont A (.one (st_exit hx)) hr (exitTo_good hx gk)
    | none =>
      rw [hx] at hr
      simp at hr
      obtain ⟨rfl, rfl, rfl⟩ := hr
      exact ⟨_, μ, w, t, d, cs, .inl rfl, A, _, ⟨k, rfl, hx⟩, .refl _ _⟩
  case cond c x y =>
    obtain ⟨g1, g2⟩ := (Bool.and_eq_true _ _).mp gc
    obtain ⟨g3, g4⟩ := (Bool.and_eq_true _ _).mp g2
    have hv := ev_rel (b := b) (ds := d) (todo := .code (.cond c x y) :: k) S.G S.T g1
    unfold stCond at hr
    split at hr
    · rename_i hb
      rw [hb] at hv
      exact hS.cont A (.one (st_cond hv.bool_inv)) hr (goodItems.cons g3 gk)
    · rename_i hb
      rw [hb] at hv
      exact hS.cont A (.one (st_cond hv.bool_inv)) hr (goodItems.cons g4 gk)
    · simp at hr
  case region id ops draw => exact region_sim hOk hS hD S gc gk hr
  case rangeFunc f params assign body =>
    obtain ⟨g1, g2⟩ := (Bool.and_eq_true _ _).mp gc
    obtain ⟨g3, g4⟩ := (Bool.and_eq_true _ _).mp g2
    exact range_func_sim hOk hS hD S g1 g3 g4 gk hr
theorem item_sim {μ : Mu} {s : FrS} {h : Heap} {rd : Option Nat} {b : Frame} {t : Array Value} {d : List Deferred} {cs : List Frame} {w : World} (S : St C gd w0 μ s h rd b t d cs w) {it : Item} {k : List Item}
    (gi : goodItem C gd it) (gk : goodItems C gd k) {r : FEnd} {s' : FrS} {h' : Heap} (hr : stItem C self rd k s h it = some (r, s', h')) :
    Goal C gd w0 μ h.next s cs rd b (lone (frm b t d (it :: k)) cs w) r s' h' := by
  have A := Aft.refl S
  cases it <;> simp only [stItem] at hr <;> try (simp at hr; done)
  case code c => exact code_sim hOk hS hD S gi gk hr
  case inBlock id => exact hS.cont A (.one st_inBlock) hr gk
  case inScope c => exact hS.cont A (.one st_inScope) hr gk
  case inLoop c => exact hS.cont A (.one st_inLoop) hr (goodItems.cons gi (goodItems.cons gi gk))
  case beginRound =>
    obtain ⟨l, hl, h1⟩ := obind_eq hr
    obtain ⟨x, hx, h2⟩ := obind_eq h1
    obtain ⟨o, ho, hlo⟩ := obind_eq hx
    obtain rfl := loopOf_eq hlo
    obtain ⟨hrd, h3⟩ := guardB_eq h2
    subst hl
    obtain ⟨e, he, hro⟩ : ∃ e, μ l = some e ∧ b.roundOf = some e.blk := by
      have := S.R
      cases hb : b.roundOf with
      | none => rw [hb] at this; exact this.elim
      | some l0 => rw [hb] at this; obtain ⟨e, he, rfl⟩ := this; exact ⟨e, he, rfl⟩
    obtain ⟨hge, L, hob, LR⟩ := S.H.obj _ e _ he ho
    have hstate : L.state = .ready := by
      rw [LR.state]
      cases hx : x.state <;> rw [hx] at hrd <;> first | rfl | (simp [isReady] at hrd)
    have hrun : (Instr.beginRound e.blk).run C.P w = .ok () { w with heap := w.heap.setIfInBounds e.blk (.loop { L with state := .busy }) } := by
      simp [Instr.beginRound, Instr.getLoop, getObj_of rfl hob, setObj_of rfl hob, hstate]
    have H3 : HRel (goodP C gd) w0 μ (h.set l (.loop (x.turn .busy x.pending))) { w with heap := w.heap.setIfInBounds e.blk (.loop { L with state := .busy }) } :=
      S.H.turned he ho rfl rfl (Turned.setObj hob) ⟨hge, _, rfl, { LR with state := rfl }⟩
    have hrun2 : (do (frm b t d (.beginRound :: k)).roundOf.elim (stuck "beginRound: no round") Instr.beginRound; pure .skip : Sem Next).run C.P w = .ok .skip { w with heap := w.heap.setIfInBounds e.blk (.loop { L with state := .busy }) } := by
      have : (frm b t d (.beginRound :: k)).roundOf = some e.blk := hro
      rw [this]
      simp [hrun]
    have s1 : Go.step C.P (lone (frm b t d (.beginRound :: k)) cs w) = .next (lone (frm b t d k) cs { w with heap := w.heap.setIfInBounds e.blk (.loop { L with state := .busy }) }) := by
      refine step_lone_go ?_
      have e1 : stepG C.P true { frame := frm b t d (.beginRound :: k), callers := cs, status := .running, dying := none } w =
          stepG.apply C.P true (frm b t d (.beginRound :: k)) cs none (do (frm b t d (.beginRound :: k)).roundOf.elim (stuck "beginRound: no round") Instr.beginRound; pure .skip) w := by
        simp only [stepG, stepG.exec, frm]
      rw [e1]
      simp only [stepG.apply, Sem.runT_eq, if_true, hrun2, GStep.bare_after, GStep.bare_go]
      rfl
    exact hS.cont (S.same (h' := h.set l (.loop (x.turn .busy x.pending))) (fun _ _ a => a) (Fresh.refl _ _) (Nat.le_refl _) H3) (.one s1) h3 gk
theorem step_sim : SelfOK C gd w0 (step C self) := by
  intro rd k s h r s' h' hr gk μ w b cs t d S
  cases k with
  | nil =>
    simp [step] at hr
    obtain ⟨rfl, rfl, rfl⟩ := hr
    exact ⟨_, μ, w, t, d, cs, .inl rfl, Aft.refl S, [], rfl, .refl _ _⟩
  | cons it k => exact item_sim hOk hS hD S gk.head gk.tail hr
end
theorem run_sound {C : Ctx} {gd : List Oper → Bool} {w0 : World} (hOk : C.Ok gd w0) (hD : ∀ self, SelfOK C gd w0 self → DrawOK C gd w0 self) : ∀ n, SelfOK C gd w0 (run C n)
  | 0 => by
    intro rd k s h r s' h' hr
    have hr : (none : Fin) = some (r, s', h') := hr
    simp at hr
  | n + 1 => step_sim hOk (run_sound hOk hD n) (hD _ (run_sound hOk hD n))
end Go.Am

namespace Go.Am
open Go
theorem natBeq {a b : Nat} (h : Nat.beq a b = true) : a = b := Nat.eq_of_beq_eq_true h
theorem sameAddrB_eq {a b : Option Addr} (h : sameAddrB a b = true) : a = b := by
  cases a <;> cases b <;> simp only [sameAddrB, Bool.and_eq_true, Bool.false_eq_true] at h
  · rfl
  · rename_i x y
    obtain ⟨⟨h1, h2⟩, h3⟩ := h
    obtain ⟨b1, o1, s1⟩ := x
    obtain ⟨b2, o2, s2⟩ := y
    have h1 : b1 = b2 := natBeq h1
    have h2 : o1 = o2 := natBeq h2
    have h3 : s1 = s2 := beq_iff_eq.1 h3
    rw [h1, h2, h3]
theorem arr_empty {α : Type} {xs : Array α} (h : xs.toList.isEmpty = true) : xs = #[] := by
  apply Array.ext'
  simpa using h
theorem strEq_imp {a b : ByteArray} (h : strEq a b = true) : a = b := by
  rw [strEq_eq'] at h
  have e : (a == b) = (a.data == b.data) := rfl
  rw [e] at h
  exact ByteArray.ext (by simpa using h)
theorem sameC_eq {v w : Value} (h : sameC v w = true) : v = w := by
  unfold sameC at h
  split at h <;> try (simp at h; done)
  · have := (beq_iff_eq).1 h; subst this; rfl
  · obtain ⟨h1, h2⟩ := (Bool.and_eq_true _ _).mp h
    have h1 := of_decide_eq_true h1
    have h2 := of_decide_eq_true h2
    subst h1; subst h2; rfl
  · rw [strEq_imp h]
  · rw [sameAddrB_eq h]
  · obtain ⟨h1, h3⟩ := (Bool.and_eq_true _ _).mp h
    obtain ⟨h1, h2⟩ := (Bool.and_eq_true _ _).mp h1
    rw [sameAddrB_eq h1, natBeq h2, natBeq h3]
  · rfl
  · rw [natBeq h]
  · rfl
  · rfl
  · obtain ⟨h1, h5⟩ := (Bool.and_eq_true _ _).mp h
    obtain ⟨h1, h4⟩ := (Bool.and_eq_true _ _).mp h1
    obtain ⟨h1, h3⟩ := (Bool.and_eq_true _ _).mp h1
    obtain ⟨h1, h2⟩ := (Bool.and_eq_true _ _).mp h1
    rw [natBeq h1, arr_empty h2, arr_empty h3, arr_empty h4, arr_empty h5]
theorem sameCs_eq {l : List Value} : ∀ {m : List Value}, sameCs l m = true → l = m := by
  induction l with
  | nil =>
    intro m h
    cases m with
    | nil => rfl
    | cons y m => simp [sameCs, lrec_nil] at h
  | cons x l ih =>
    intro m h
    cases m with
    | nil => simp [sameCs, lrec_cons] at h
    | cons y m =>
      have h : (match sameC x y with | true => sameCs l m | false => false) = true := h
      cases hc : sameC x y with
      | false => rw [hc] at h; simp at h
      | true => rw [hc] at h; rw [sameC_eq hc, ih h]
theorem sameW_eq {v w : Value} (h : sameW v w = true) : v = w := by
  unfold sameW at h
  split at h
  · have := sameCs_eq h; congr 1; exact Array.ext' this
  · exact sameC_eq h
theorem sameWs_eq {l : List Value} : ∀ {m : List Value}, sameWs l m = true → l = m := by
  induction l with
  | nil =>
    intro m h
    cases m with
    | nil => rfl
    | cons y m => simp [sameWs, lrec_nil] at h
  | cons x l ih =>
    intro m h
    cases m with
    | nil => simp [sameWs, lrec_cons] at h
    | cons y m =>
      have h : (match sameW x y with | true => sameWs l m | false => false) = true := h
      cases hc : sameW x y with
      | false => rw [hc] at h; simp at h
      | true => rw [hc] at h; rw [sameW_eq hc, ih h]
theorem sameV_eq {v w : Value} (h : sameV v w = true) : v = w := by
  unfold sameV at h
  split at h
  · have := sameCs_eq h; congr 1; exact Array.ext' this
  · have := sameCs_eq h; congr 1; exact Array.ext' this
  · rename_i t v u w
    obtain ⟨h1, h3⟩ := (Bool.and_eq_true _ _).mp h
    obtain ⟨h1, h2⟩ := (Bool.and_eq_true _ _).mp h1
    have h1 := natBeq h1
    have h2 := sameCs_eq h2
    subst h1
    congr 1
    cases v <;> cases w <;> simp [bothAgg] at h3 <;> simp only [cellsOf] at h2 <;> first
      | (congr 1; exact Array.ext' h2)
      | rfl
      | (exact (List.cons.inj h2).1)
  · obtain ⟨h1, h3⟩ := (Bool.and_eq_true _ _).mp h
    obtain ⟨h1, h2⟩ := (Bool.and_eq_true _ _).mp h1
    have h1 := natBeq h1
    have h2 := sameWs_eq h2
    have h3 := sameWs_eq h3
    subst h1
    rw [Array.ext' h2, Array.ext' h3]
  · obtain ⟨h1, h5⟩ := (Bool.and_eq_true _ _).mp h
    obtain ⟨h1, h4⟩ := (Bool.and_eq_true _ _).mp h1
    obtain ⟨h1, h3⟩ := (Bool.and_eq_true _ _).mp h1
    obtain ⟨h1, h2⟩ := (Bool.and_eq_true _ _).mp h1
    rw [natBeq h1, arr_empty h2, arr_empty h3, arr_empty h4, arr_empty h5]
  · exact sameC_eq h
theorem sameO_eq {x y : AObj} (h : sameO x y = true) : x = y := by
  unfold sameO at h
  split at h
  · obtain ⟨h1, h3⟩ := (Bool.and_eq_true _ _).mp h
    obtain ⟨h1, h2⟩ := (Bool.and_eq_true _ _).mp h1
    rw [sameCs_eq h1, natBeq h2, (beq_iff_eq).1 h3]
  · rw [natBeq h]
  · simp at h
def HLe (h h' : Heap) : Prop := h.next ≤ h'.next ∧ ∀ i o, h.get i = some o → h'.get i = some o
theorem HLe.refl (h : Heap) : HLe h h := ⟨Nat.le_refl _, fun _ _ a => a⟩
theorem HLe.alloc {h : Heap} (hf : freshAt (h.get h.next) = true) (o : AObj) : HLe h (h.alloc o) := by
  refine ⟨by simp, fun i p a => ?_⟩
  rw [Heap.get_alloc_ne]
  · exact a
  · rintro rfl; rw [a] at hf; simp [freshAt] at hf
theorem obind_mono {α β : Type} {o o' : Option α} {f f' : α → Option β} {b : β} (h : obind o f = some b) (ho : ∀ a, o = some a → o' = some a) (hf : ∀ a, f a = some b → f' a = some b) : obind o' f' = some b := by
  obtain ⟨a, ha, h1⟩ := obind_eq h
  rw [ho a ha]
  exact hf a h1
section
variable {C : Ctx} {ρ : Operand → Value}
theorem rowAt_mono {h h' : Heap} (hl : HLe h h') {b : Nat} {c : List Value} (hr : rowAt h b = some c) : rowAt h' b = some c :=
  obind_mono hr (fun o ho => hl.2 b o ho) (fun _ a => a)
theorem entriesOf_mono {h h' : Heap} (hl : HLe h h') {m : Value} {es : List MapEntry} (hr : entriesOf h m = some es) : entriesOf h' m = some es := by
  unfold entriesOf at hr ⊢
  split at hr
  · exact hr
  · exact obind_mono hr (fun a ha => obind_mono ha (fun o ho => hl.2 _ o ho) (fun _ a => a)) (fun _ a => a)
  · simp at hr
theorem sliceCells_mono {h h' : Heap} (hl : HLe h h') {s n : Nat} {x : Value} {l : List Value} (hr : sliceCells h s n x = some l) : sliceCells h' s n x = some l := by
  unfold sliceCells at hr ⊢
  split at hr
  · cases n with
    | zero => exact hr
    | succ n => exact obind_mono hr (fun a ha => rowAt_mono hl ha) (fun _ a => a)
  · exact hr
  · exact hr
  · simp at hr
theorem early_mono {h h' : Heap} (hl : HLe h h') {op : Op} {e : EV} (he : earlyVal C ρ h op = some e) : earlyVal C ρ h' op = some e := by
  cases op <;> try exact he
  case load t a => exact obind_mono he (fun v hv => obind_mono hv (fun _ a => a) (fun a ha => obind_mono ha (fun c hc => rowAt_mono hl hc) (fun _ a => a))) (fun _ a => a)
  case lookup t m k ok =>
    exact obind_mono he (fun v hv => obind_mono hv (fun _ a => a) (fun d hd => obind_mono hd (fun _ a => a) (fun q hq => by
      obtain ⟨h1, h2⟩ := guardB_eq hq
      rw [h1]
      exact obind_mono h2 (fun _ a => a) (fun z hz => obind_mono hz (fun es hes => entriesOf_mono hl hes) (fun _ a => a))))) (fun _ a => a)
  case convert s d x =>
    refine obind_mono he (fun _ a => a) (fun ds hds => obind_mono hds (fun _ a => a) (fun dd hdd => ?_))
    split at hdd
    · exact hdd
    · exact hdd
    · rename_i p n c hx
      rw [hx] at hdd ⊢
      revert hdd
      show convSl C (.slice p n c) n h ds dd = some e → convSl C (.slice p n c) n h' ds dd = some e
      intro hdd
      unfold convSl at hdd ⊢
      split at hdd
      · refine obind_mono hdd (fun _ a => a) (fun d hd => ?_)
        obtain ⟨h1, h2⟩ := guardB_eq hd
        rw [h1]
        exact obind_mono h2 (fun l hl' => sliceCells_mono hl hl') (fun _ a => a)
      · simp at hdd
    · simp at hdd
  case call c =>
    obtain ⟨callee, args, ats⟩ := c
    cases callee <;> try exact he
    rename_i b
    cases b <;> try exact he
    simp only [earlyVal, earlyCall] at he ⊢
    split at he
    · refine obind_mono he (fun v hv => obind_mono hv (fun _ a => a) (fun d hd => ?_)) (fun _ a => a)
      unfold lenIn at hd ⊢
      split at hd <;> first
        | exact hd
        | exact obind_mono hd (fun es hes => entriesOf_mono hl hes) (fun _ a => a)
    · simp at he
theorem early_pure {h h' : Heap} {op : Op} (hb : heapBound op = false) : earlyVal C ρ h op = earlyVal C ρ h' op := by
  cases op <;> first | rfl | (simp [heapBound] at hb)
theorem early_new {h h' : Heap} {op : Op} {x : AObj} {mk : Nat → Value} (he : earlyVal C ρ h op = some (.new x mk)) : earlyVal C ρ h' op = some (.new x mk) := by
  cases op <;> try exact he
  case load t a =>
    obtain ⟨v, _, h1⟩ := obind_eq he
    simp [asVal] at h1
  case lookup t m k ok =>
    obtain ⟨v, _, h1⟩ := obind_eq he
    simp [asVal] at h1
  case convert s d x' =>
    refine obind_mono he (fun _ a => a) (fun ds hds => obind_mono hds (fun _ a => a) (fun dd hdd => ?_))
    split at hdd
    · exact hdd
    · exact hdd
    · rename_i p n c hx
      unfold convSl at hdd
      split at hdd
      · obtain ⟨d, _, hd⟩ := obind_eq hdd
        obtain ⟨_, h2⟩ := guardB_eq hd
        obtain ⟨l, _, h3⟩ := obind_eq h2
        obtain ⟨l', _, h4⟩ := obind_eq h3
        simp at h4
      · simp at hdd
    · simp at hdd
  case call c =>
    obtain ⟨callee, args, ats⟩ := c
    cases callee <;> try exact he
    rename_i b
    cases b <;> try exact he
    simp only [earlyVal, earlyCall] at he
    split at he
    · obtain ⟨v, _, h1⟩ := obind_eq he
      simp [asVal] at h1
    · simp at he
end
end Go.Am

namespace Go.Am
open Go
noncomputable def putA (τ : List (List Value)) (dst : Option Tmp) (v : Value) : List (List Value) :=
  match dst with
  | some d => tset τ d v
  | none => τ
theorem put_eq (τ : List (List Value)) (D : List Deferred) (p : Option Value) (dst : Option Tmp) (v : Value) : FrS.put ⟨τ, D, p⟩ dst v = ⟨putA τ dst v, D, p⟩ := by cases dst <;> rfl
theorem put_eq' (s : FrS) (dst : Option Tmp) (v : Value) : s.put dst v = ⟨putA s.tmps dst v, s.defers, s.pan⟩ := by cases dst <;> rfl
section
variable {C : Ctx} {self : Self} {rd : Option Nat}
def Puts (τ τ' : List (List Value)) (dst : Option Tmp) (r r' : Option ORes) : Prop :=
  ∀ s' h', r = some (.ok s' h') → ∃ v D p, s' = ⟨putA τ dst v, D, p⟩ ∧ r' = some (.ok ⟨putA τ' dst v, D, p⟩ h')
theorem puts_ofRes {τ τ' : List (List Value)} {D : List Deferred} {p : Option Value} {dst : Option Tmp} (o : Option FRes) : Puts τ τ' dst (obind o (ofRes ⟨τ, D, p⟩ dst)) (obind o (ofRes ⟨τ', D, p⟩ dst)) := by
  intro s' h' h
  cases o with
  | none => simp at h
  | some r =>
    cases r with
    | panic v h1 => simp [ofRes] at h
    | ret v h1 q =>
      simp only [obind_some, ofRes, put_eq] at h ⊢
      simp at h
      obtain ⟨rfl, rfl⟩ := h
      exact ⟨v, D, p, rfl, rfl⟩
theorem puts_ofVal {τ τ' : List (List Value)} {D : List Deferred} {p : Option Value} {dst : Option Tmp} (o : Option (Value × Heap)) : Puts τ τ' dst (obind o (ofVal ⟨τ, D, p⟩ dst)) (obind o (ofVal ⟨τ', D, p⟩ dst)) := by
  intro s' h' h
  cases o with
  | none => simp at h
  | some q =>
    simp only [obind_some, ofVal, put_eq] at h ⊢
    simp at h
    obtain ⟨rfl, rfl⟩ := h
    exact ⟨q.1, D, p, rfl, rfl⟩
theorem puts_ofHeap {τ τ' : List (List Value)} {D : List Deferred} {p : Option Value} {dst : Option Tmp} (o : Option Heap) : Puts τ τ' dst (obind o (ofHeap ⟨τ, D, p⟩ dst)) (obind o (ofHeap ⟨τ', D, p⟩ dst)) := by
  intro s' h' h
  cases o with
  | none => simp at h
  | some q =>
    simp only [obind_some, ofHeap, put_eq] at h ⊢
    simp at h
    obtain ⟨rfl, rfl⟩ := h
    exact ⟨undef, D, p, rfl, rfl⟩
theorem puts_some {τ τ' : List (List Value)} {D : List Deferred} {p : Option Value} {dst : Option Tmp} (v : Value) (h : Heap) : Puts τ τ' dst (some (.ok (FrS.put ⟨τ, D, p⟩ dst v) h)) (some (.ok (FrS.put ⟨τ', D, p⟩ dst v) h)) := by
  intro s' h' hh
  simp only [put_eq] at hh ⊢
  simp at hh
  obtain ⟨rfl, rfl⟩ := hh
  exact ⟨v, D, p, rfl, rfl⟩
theorem puts_none {τ τ' : List (List Value)} {dst : Option Tmp} {r' : Option ORes} : Puts τ τ' dst none r' := by intro s' h' h; simp at h
theorem eff_local {τ τ' : List (List Value)} {D : List Deferred} {p : Option Value} {dst : Option Tmp} {h : Heap} {op : Op} (hx : ∀ x ∈ op.operands.toList, ev τ x = ev τ' x) :
    Puts τ τ' dst (effOp C self rd dst ⟨τ, D, p⟩ h op) (effOp C self rd dst ⟨τ', D, p⟩ h op) := by
  cases op <;> try exact puts_none
  case store t a v =>
    simp only [effOp]
    rw [← hx a (by simp [Op.operands]), ← hx v (by simp [Op.operands])]
    exact puts_ofHeap _
  case mapUpdate t m k v =>
    simp only [effOp]
    rw [← hx m (by simp [Op.operands]), ← hx k (by simp [Op.operands]), ← hx v (by simp [Op.operands])]
    exact puts_ofHeap _
  case insert t m k v =>
    simp only [effOp]
    rw [← hx m (by simp [Op.operands]), ← hx k (by simp [Op.operands]), ← hx v (by simp [Op.operands])]
    exact puts_ofHeap _
  case range t x =>
    simp only [effOp]
    rw [← hx x (by simp [Op.operands])]
    unfold rangeOp
    split
    · cases C.und t with
      | none => exact puts_none
      | some d =>
        simp only [obind_some]
        cases isStringD d
        · exact puts_none
        · exact puts_some _ _
    · exact puts_none
  case next it b =>
    simp only [effOp]
    rw [← hx it (by simp [Op.operands])]
    cases b
    · exact puts_none
    · exact puts_ofVal _
  case panic x =>
    intro s' h' hh
    simp only [effOp] at hh
    unfold panicOp at hh
    split at hh <;> simp at hh
  case defer c =>
    simp only [effOp, deferOp]
    cases rd with
    | some l => exact puts_none
    | none =>
      cases hc : c.callee with
      | value f =>
        simp only
        have hf := hx f (by simp [Op.operands, Call.operands, hc])
        have ha : c.args.toList.map (ev τ) = c.args.toList.map (ev τ') := List.map_congr_left fun x hxx => hx x (by simp [Op.operands, Call.operands]; right; simpa using hxx)
        rw [← hf, ← ha]
        unfold deferVal
        split
        · intro s' h' hh
          simp only [put_eq] at hh ⊢
          simp at hh
          obtain ⟨rfl, rfl⟩ := hh
          exact ⟨undef, _, p, rfl, rfl⟩
        · exact puts_none
      | _ => exact puts_none
  case call c =>
    have ha : c.args.toList.map (ev τ) = c.args.toList.map (ev τ') := List.map_congr_left fun x hxx => hx x (by simp [Op.operands, Call.operands]; right; simpa using hxx)
    simp only [effOp, callOp]
    cases hc : c.callee with
    | value f =>
      simp only
      rw [← hx f (by simp [Op.operands, Call.operands, hc]), ← ha]
      unfold callVal
      split
      · exact puts_ofRes _
      · exact puts_none
    | invoke r name =>
      simp only
      rw [← hx r (by simp [Op.operands, Call.operands, hc]), ← ha]
      exact puts_ofRes _
    | builtin b =>
      simp only
      rw [← ha]
      cases b <;> simp only [callBuiltin] <;> try exact puts_none
      case append => split <;> first | exact puts_ofVal _ | exact puts_none
      case copy => split <;> first | exact puts_ofVal _ | exact puts_none
      case delete =>
        split
        · rename_i t ts x y l e1 e2
          cases aDelete C t x y h with
          | none => exact puts_none
          | some h1 => exact puts_some _ _
        · exact puts_none
      case recover =>
        unfold recoverOp
        cases rd with
        | some l => exact puts_none
        | none =>
          cases p with
          | none => exact puts_some _ _
          | some v =>
            intro s' h' hh
            simp only [put_eq] at hh ⊢
            simp at hh
            obtain ⟨rfl, rfl⟩ := hh
            exact ⟨v, D, none, rfl, rfl⟩
def Panics (τ τ' : List (List Value)) (D : List Deferred) (p : Option Value) (r r' : Option ORes) : Prop :=
  ∀ v s' h', r = some (.panic v s' h') → s' = ⟨τ, D, p⟩ ∧ r' = some (.panic v ⟨τ', D, p⟩ h')
theorem panics_none {τ τ' : List (List Value)} {D : List Deferred} {p : Option Value} {r' : Option ORes} : Panics τ τ' D p none r' := by intro v s' h' h; simp at h
theorem panics_ok {τ τ' : List (List Value)} {D : List Deferred} {p : Option Value} {s : FrS} {h : Heap} {r' : Option ORes} : Panics τ τ' D p (some (.ok s h)) r' := by intro v s' h' h; simp at h
theorem panics_ofRes {τ τ' : List (List Value)} {D : List Deferred} {p : Option Value} {dst : Option Tmp} (o : Option FRes) : Panics τ τ' D p (obind o (ofRes ⟨τ, D, p⟩ dst)) (obind o (ofRes ⟨τ', D, p⟩ dst)) := by
  intro v s' h' h
  cases o with
  | none => simp at h
  | some r =>
    cases r with
    | panic v1 h1 =>
      simp [ofRes] at h
      obtain ⟨rfl, rfl, rfl⟩ := h
      exact ⟨rfl, rfl⟩
    | ret v1 h1 q => simp [ofRes] at h
theorem panics_ofVal {τ τ' : List (List Value)} {D : List Deferred} {p : Option Value} {dst : Option Tmp} {r' : Option ORes} (o : Option (Value × Heap)) : Panics τ τ' D p (obind o (ofVal ⟨τ, D, p⟩ dst)) r' := by
  intro v s' h' h
  cases o <;> simp [ofVal] at h
theorem panics_ofHeap {τ τ' : List (List Value)} {D : List Deferred} {p : Option Value} {dst : Option Tmp} {r' : Option ORes} (o : Option Heap) : Panics τ τ' D p (obind o (ofHeap ⟨τ, D, p⟩ dst)) r' := by
  intro v s' h' h
  cases o <;> simp [ofHeap] at h
theorem eff_panic {τ τ' : List (List Value)} {D : List Deferred} {p : Option Value} {dst : Option Tmp} {h : Heap} {op : Op} (hx : ∀ x ∈ op.operands.toList, ev τ x = ev τ' x) :
    Panics τ τ' D p (effOp C self rd dst ⟨τ, D, p⟩ h op) (effOp C self rd dst ⟨τ', D, p⟩ h op) := by
  cases op <;> try exact panics_none
  case store t a v => exact panics_ofHeap _
  case mapUpdate t m k v => exact panics_ofHeap _
  case insert t m k v => exact panics_ofHeap _
  case range t x =>
    simp only [effOp]
    unfold rangeOp
    split
    · cases C.und t with
      | none => exact panics_none
      | some d =>
        simp only [obind_some]
        cases isStringD d
        · exact panics_none
        · exact panics_ok
    · exact panics_none
  case next it b =>
    simp only [effOp]
    cases b
    · exact panics_none
    · exact panics_ofVal _
  case panic x =>
    simp only [effOp]
    rw [← hx x (by simp [Op.operands])]
    unfold panicOp
    split
    · intro v s' h' hh
      simp at hh
      obtain ⟨rfl, rfl, rfl⟩ := hh
      exact ⟨rfl, rfl⟩
    · exact panics_none
  case defer c =>
    simp only [effOp, deferOp]
    cases rd with
    | some l => exact panics_none
    | none =>
      cases hc : c.callee with
      | value f =>
        simp only
        unfold deferVal
        split
        · exact panics_ok
        · exact panics_none
      | _ => exact panics_none
  case call c =>
    have ha : c.args.toList.map (ev τ) = c.args.toList.map (ev τ') := List.map_congr_left fun x hxx => hx x (by simp [Op.operands, Call.operands]; right; simpa using hxx)
    simp only [effOp, callOp]
    cases hc : c.callee with
    | value f =>
      simp only
      rw [← hx f (by simp [Op.operands, Call.operands, hc]), ← ha]
      unfold callVal
      split
      · exact panics_ofRes _
      · exact panics_none
    | invoke r name =>
      simp only
      rw [← hx r (by simp [Op.operands, Call.operands, hc]), ← ha]
      exact panics_ofRes _
    | builtin b =>
      simp only
      cases b <;> simp only [callBuiltin] <;> try exact panics_none
      case append => split <;> first | exact panics_ofVal _ | exact panics_none
      case copy => split <;> first | exact panics_ofVal _ | exact panics_none
      case delete =>
        split
        · rename_i t ts x y l e1 e2
          cases aDelete C t x y h with
          | none => exact panics_none
          | some h1 => exact panics_ok
        · exact panics_none
      case recover =>
        unfold recoverOp
        cases rd with
        | some l => exact panics_none
        | none =>
          cases p with
          | none => exact panics_ok
          | some v => exact panics_ok
theorem putEV_calm {dst : Option Tmp} {s s' : FrS} {h h' : Heap} {e : EV} {v : Value} : putEV dst s h e ≠ some (.panic v s' h') := by
  cases e with
  | val v => simp [putEV]
  | new x mk =>
    intro hp
    obtain ⟨_, h2⟩ := guardB_eq hp
    simp at h2
theorem bare_eq {r r' : ORes} {l : List Deferred} (h : ifBare r l = some r') : l = [] ∧ r' = r := by
  cases l with
  | nil => simp [ifBare] at h; exact ⟨rfl, h.symm⟩
  | cons d l => simp [ifBare] at h
abbrev PSt := List Rec × FrS × Heap
def PStep (C : Ctx) (self : Self) (rd : Option Nat) (ops : List Oper) (a b : PSt) : PE → Prop
  | .re i o => b = a ∧ recheckR C o.op a.2.2 (findRec i a.1) = true
  | .ex i o =>
    (wantedA ops o a.2.1.tmps = false ∧ b = (a.1, a.2.1.put o.dst undef, a.2.2)) ∨
    (wantedA ops o a.2.1.tmps = true ∧ isEff o.op = true ∧ b.1 = a.1 ∧ effOp C self rd o.dst a.2.1 a.2.2 o.op = some (.ok b.2.1 b.2.2)) ∨
    (wantedA ops o a.2.1.tmps = true ∧ isEff o.op = false ∧ ∃ e, earlyVal C (ev a.2.1.tmps) a.2.2 o.op = some e ∧ putEV o.dst a.2.1 a.2.2 e = some (.ok b.2.1 b.2.2) ∧ b.1 = recEV i a.2.1.tmps a.2.2 e :: a.1)
theorem runPlan_cons (C : Ctx) (self : Self) (rd : Option Nat) (ops : List Oper) (e : PE) (l : List PE) (rs : List Rec) (s : FrS) (h : Heap) : runPlan C self rd ops (e :: l) rs s h = exPE C self rd ops (runPlan C self rd ops l) rs s h e := rfl
theorem plan_trace {ops : List Oper} : ∀ (l : List PE) {rs : List Rec} {s : FrS} {h : Heap} {r : ORes}, runPlan C self rd ops l rs s h = some r →
    ∃ (tr : Nat → PSt) (N : Nat), tr 0 = (rs, s, h) ∧ (∀ p e, p < N → l[p]? = some e → PStep C self rd ops (tr p) (tr (p + 1)) e) ∧
      ((N = l.length ∧ r = .ok (tr l.length).2.1 (tr l.length).2.2) ∨
        ∃ i o v h', l[N]? = some (.ex i o) ∧ isEff o.op = true ∧ wantedA ops o (tr N).2.1.tmps = true ∧ effOp C self rd o.dst (tr N).2.1 (tr N).2.2 o.op = some (.panic v (tr N).2.1 h') ∧ (tr N).2.1.defers = [] ∧ r = .panic v (tr N).2.1 h')
  | [], rs, s, h, r, hr => by
    have : r = .ok s h := by simpa [runPlan, lrec_nil] using hr.symm
    subst this
    exact ⟨fun _ => (rs, s, h), 0, rfl, fun p e _ he => by simp at he, .inl ⟨rfl, rfl⟩⟩
  | e :: l, rs, s, h, r, hr => by
    rw [runPlan_cons] at hr
    have key : (∃ b : PSt, PStep C self rd ops (rs, s, h) b e ∧ runPlan C self rd ops l b.1 b.2.1 b.2.2 = some r) ∨
        ∃ i o v h', e = .ex i o ∧ isEff o.op = true ∧ wantedA ops o s.tmps = true ∧ effOp C self rd o.dst s h o.op = some (.panic v s h') ∧ s.defers = [] ∧ r = .panic v s h' := by
      cases e with
      | re i o =>
        obtain ⟨h1, h2⟩ := guardB_eq hr
        exact .inl ⟨(rs, s, h), ⟨rfl, h1⟩, h2⟩
      | ex i o =>
        simp only [exPE] at hr
        split at hr
        · rename_i hw
          unfold exOp at hr
          split at hr
          · rename_i heff
            obtain ⟨ro, h1, h2⟩ := obind_eq hr
            cases ro with
            | panic v s1 h1' =>
              obtain ⟨hd, hr'⟩ := bare_eq h2
              obtain ⟨es, _⟩ := eff_panic (τ := s.tmps) (τ' := s.tmps) (D := s.defers) (p := s.pan) (fun x _ => rfl) v s1 h1' h1
              have es : s1 = s := es
              subst es
              exact .inr ⟨i, o, v, h1', rfl, heff, hw, h1, hd, hr'⟩
            | ok s1 h1' => exact .inl ⟨(rs, s1, h1'), .inr (.inl ⟨hw, heff, rfl, h1⟩), h2⟩
          · rename_i heff
            obtain ⟨e', h1, h2⟩ := obind_eq hr
            obtain ⟨ro, h3, h4⟩ := obind_eq h2
            cases ro with
            | panic v s1 h1 => exact absurd h3 putEV_calm
            | ok s1 h1' => exact .inl ⟨(recEV i s.tmps h e' :: rs, s1, h1'), .inr (.inr ⟨hw, heff, e', h1, h3, rfl⟩), h4⟩
        · rename_i hw
          exact .inl ⟨(rs, s.put o.dst undef, h), .inl ⟨hw, rfl⟩, hr⟩
    rcases key with ⟨b, hb, hrun⟩ | ⟨i, o, v, h', rfl, h1, h2, h3, h4, h5⟩
    · obtain ⟨tr, N, t0, t1, t2⟩ := plan_trace l hrun
      refine ⟨fun n => match n with | 0 => (rs, s, h) | n + 1 => tr n, N + 1, rfl, ?_, ?_⟩
      · intro p e' hp he'
        cases p with
        | zero =>
          simp at he'
          subst he'
          show PStep C self rd ops (rs, s, h) (tr 0) e
          rw [t0]; exact hb
        | succ p => exact t1 p e' (by omega) (by simpa using he')
      · rcases t2 with ⟨t2, t3⟩ | ⟨i, o, v, h', t3, t4⟩
        · exact .inl ⟨by rw [t2]; rfl, t3⟩
        · exact .inr ⟨i, o, v, h', by simpa using t3, t4⟩
    · exact ⟨fun _ => (rs, s, h), 0, rfl, fun p e' hp => by omega, .inr ⟨i, o, v, h', rfl, h1, h2, h3, h4, h5⟩⟩
end
end Go.Am
