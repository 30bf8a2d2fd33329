/- Parts Am20, Am21, Am22 of the abstract machine over this program, joined: what each part says stands at its head. -/
import Derived.Test.YtlflfbnnjlkkcaaGreatJAm18
set_option linter.unusedSimpArgs false
set_option linter.unusedVariables false
/- The abstract machine, part 20: regions in the text's order, and every step of a frame. -/
namespace Go.Am
open Go

section
variable {C : Ctx} {gd : List Oper → Bool} {w0 : World} {μ : Mu} {s : FrS} {h : Heap} {rd : Option Nat} {b : Frame} {t : Array Value} {d : List Deferred} {cs : List Frame} {w : World}

theorem SelfOK.cont {self : Self} (hS : SelfOK C gd w0 self) {n : Nat} {s1 : FrS} {h1 : Heap} {μ1 : Mu} {t1 : Array Value} {d1 : List Deferred} {cs1 : List Frame} {w1 : World} {M0 : Machine} {k1 : List Item} {r : FEnd} {s' : FrS} {h' : Heap}
    (A : Aft C gd w0 μ n s cs rd b s1 h1 μ1 t1 d1 cs1 w1) (hs : Steps C.P M0 (lone (frm b t1 d1 k1) cs1 w1)) (he : self rd k1 s1 h1 = some (r, s', h')) (gk : goodItems C gd k1) :
    ∃ s2 μ' w' tmps' ds' cs', Near r s' s2 ∧ Aft C gd w0 μ n s cs rd b s2 h' μ' tmps' ds' cs' w' ∧ EndsAt C.P M0 b tmps' ds' cs' w' μ' r := by
  obtain ⟨s2, μ', w', t', d', cs', nr, A', E'⟩ := hS rd k1 s1 h1 r s' h' he gk μ1 w1 b cs1 t1 d1 A.st
  exact ⟨s2, μ', w', t', d', cs', nr, A.trans A', E'.of_steps hs⟩

theorem VRel.bool_iff {v V : Value} (hv : VRel μ v V) (c : Bool) : v = .bool c ↔ V = .bool c := by
  constructor
  · rintro rfl; exact hv.bool_inv
  · rintro rfl; cases hv; rfl

theorem boolIs_iff (want : Bool) (v : Value) : boolIs want v = true ↔ v = .bool want := by
  cases v <;> simp [boolIs]

theorem wanted_eq {τ : List (List Value)} (hT : TRel μ τ t) (ops : Array Oper) (o : Oper) : wantedA ops.toList o τ = Region.wanted o (yielded ops t) := by
  unfold wantedA Region.wanted
  cases hg : o.guard with
  | none => rfl
  | some q =>
    obtain ⟨j, want⟩ := q
    simp only
    unfold wantedBy yielded
    rw [lget_eq, Array.getElem?_toList]
    cases hj : ops[j]? with
    | none => simp
    | some g =>
      simp only [obind_some, Option.bind_some]
      cases hd : g.dst with
      | none => simp
      | some x =>
        simp only [Option.bind_some]
        have hx := (hT x).1
        rw [Bool.eq_iff_iff, boolIs_iff, hx.bool_iff]
        rw [Array.getD_eq_getD_getElem?]
        cases hv : t[x]? with
        | none => simp [undef]
        | some V =>
          simp only [Option.getD_some]
          cases V <;> simp

variable {ops : Array Oper} {i : Nat} {rest : List Nat} {o : Oper} {k : List Item}

theorem early_at (hOk : C.Ok gd w0) (S : St C gd w0 μ s h rd b t d cs w) (ho : ops[i]? = some o) (hw : Region.wanted o (yielded ops t) = true) (hgo : goodOp C o = true) {e : EV} (he : earlyVal C (ev s.tmps) h o.op = some e) {r : ORes} (hr : putEV o.dst s h e = some r) :
    OAt C gd w0 μ h.next s cs rd b (lone (frm b t d (.inRegion ops (i :: rest) :: k)) cs w) (.inRegion ops rest :: k) r := by
  have hρ : ∀ x ∈ o.op.operands.toList, VRel μ (ev s.tmps x) ((frm b t d (.inRegion ops (i :: rest) :: k)).eval x) := fun x hx => ev_rel S.G S.T (List.all_eq_true.1 hgo x hx)
  have hd : ∀ c, o.op ≠ .defer c := by intro c e'; rw [e'] at he; simp [earlyVal] at he
  have hE := early_sim hOk.ok0 S.H hρ he
  cases e with
  | val v =>
    simp [putEV] at hr; subst hr
    obtain ⟨V, w', hrun, hq, hv⟩ := hE
    exact at_value S ho hw hd hrun (fun _ _ a => a) (Fresh.refl _ _) (Nat.le_refl _) (S.H.quiet hq) hv
  | new x mk =>
    obtain ⟨_, hr⟩ := guardB_eq hr
    simp at hr; subst hr
    obtain ⟨V, w', O, lim, esz, hrun, hg, hx⟩ := hE
    have hf := S.H.fresh
    have hpos := S.H.pos
    obtain ⟨h1, h2⟩ := hx h.next hf (by omega)
    exact at_value S ho hw hd hrun (Mu.le_upd _ hf) (Fresh.upd _ _ (Nat.le_refl _)) (by simp) ((S.H.allocA x).grew lim esz hf (by omega) (by simp) (Heap.get_alloc_self _ _) hg h1) h2

theorem do_at (hOk : C.Ok gd w0) {self : Self} (hS : SelfOK C gd w0 self) (S : St C gd w0 μ s h rd b t d cs w) (ho : ops[i]? = some o) (hw : Region.wanted o (yielded ops t) = true) (hgo : goodOp C o = true) {r : ORes} (hr : doOp C self rd o s h = some r) :
    OAt C gd w0 μ h.next s cs rd b (lone (frm b t d (.inRegion ops (i :: rest) :: k)) cs w) (.inRegion ops rest :: k) r := by
  unfold doOp at hr
  split at hr
  · exact eff_sim hOk hS S ho hw hgo hr
  · obtain ⟨e, he, h1⟩ := obind_eq hr
    exact early_at hOk S ho hw hgo he h1

theorem OAt.trans {n : Nat} {s1 : FrS} {h1 : Heap} {μ1 : Mu} {t1 : Array Value} {d1 : List Deferred} {cs1 : List Frame} {w1 : World} {M0 : Machine} {k1 todo : List Item} {r : ORes}
    (A : Aft C gd w0 μ n s cs rd b s1 h1 μ1 t1 d1 cs1 w1) (hs : Steps C.P M0 (lone (frm b t1 d1 k1) cs1 w1)) (h : OAt C gd w0 μ1 h1.next s1 cs1 rd b (lone (frm b t1 d1 k1) cs1 w1) todo r) :
    OAt C gd w0 μ n s cs rd b M0 todo r := by
  cases r with
  | ok s' h' => obtain ⟨μ', w', t', d', cs', A', hs'⟩ := h; exact ⟨μ', w', t', d', cs', A.trans A', hs.trans hs'⟩
  | panic v s' h' => obtain ⟨s2, μ', w', t', d', cs', nr, A', E⟩ := h; exact ⟨s2, μ', w', t', d', cs', nr, A.trans A', E.of_steps hs⟩

theorem runOps_cons (C : Ctx) (self : Self) (rd : Option Nat) (ops : List Oper) (o : Oper) (l : List Oper) (s : FrS) (h : Heap) : runOps C self rd ops (o :: l) s h = runOp C self rd ops o (runOps C self rd ops l) s h := rfl

theorem ops_at (hOk : C.Ok gd w0) {self : Self} (hS : SelfOK C gd w0 self) (hgo : ∀ o ∈ ops.toList, goodOp C o = true) : ∀ (l : List Oper) (pre : List Oper), ops.toList = pre ++ l → ∀ {μ : Mu} {s : FrS} {h : Heap} {t : Array Value} {d : List Deferred} {cs : List Frame} {w : World} {r : ORes},
    runOps C self rd ops.toList l s h = some r → St C gd w0 μ s h rd b t d cs w → OAt C gd w0 μ h.next s cs rd b (lone (frm b t d (.inRegion ops (List.range' pre.length l.length) :: k)) cs w) k r
  | [], pre, hp, μ, s, h, t, d, cs, w, r, hr, S => by
    have : r = .ok s h := by simpa [runOps, lrec_nil] using hr.symm
    subst this
    exact ⟨μ, w, t, d, cs, Aft.refl S, .one st_regionEnd⟩
  | o :: l, pre, hp, μ, s, h, t, d, cs, w, r, hr, S => by
    rw [runOps_cons] at hr
    have ho : ops[pre.length]? = some o := by rw [← Array.getElem?_toList, hp]; simp
    have hp' : ops.toList = (pre ++ [o]) ++ l := by rw [hp]; simp
    have hl : (pre ++ [o]).length = pre.length + 1 := by simp
    rw [List.length_cons, List.range'_succ]
    unfold runOp at hr
    split at hr
    · rename_i hwa
      have hw : Region.wanted o (yielded ops t) = true := by rw [← wanted_eq S.T]; exact hwa
      obtain ⟨r1, hr1, h2⟩ := obind_eq hr
      have A1 := do_at (k := k) (rest := List.range' (pre.length + 1) l.length) hOk hS S ho hw (hgo o (by rw [hp]; simp)) hr1
      cases r1 with
      | ok s1 h1 =>
        obtain ⟨μ1, w1, t1, d1, cs1, A, hs⟩ := A1
        have h2 : runOps C self rd ops.toList l s1 h1 = some r := h2
        have := ops_at hOk hS hgo l (pre ++ [o]) hp' h2 A.st
        rw [hl] at this
        exact OAt.trans A hs this
      | panic v s1 h1 =>
        have h2 : some (ORes.panic v s1 h1) = some r := h2
        simp at h2; subst h2
        exact A1
    · rename_i hwa
      have hw : Region.wanted o (yielded ops t) = false := by rw [← wanted_eq S.T]; exact hwa
      have A := S.aft (fun _ _ a => a) (Fresh.refl _ _) (Nat.le_refl _) S.H o.dst (undef_rel μ)
      have := ops_at hOk hS hgo l (pre ++ [o]) hp' hr A.st
      rw [hl] at this
      exact OAt.trans A (.one (st_opSkip ho hw)) this
end

/-- a region that draws its order -/
def DrawOK (C : Ctx) (gd : List Oper → Bool) (w0 : World) (self : Self) : Prop :=
  ∀ (ops : Array Oper) (rd : Option Nat) (s : FrS) (h : Heap) (r : ORes), runPlan C self rd ops.toList (planOf ops.toList) [] s h = some r → gd ops.toList = true → (∀ o ∈ ops.toList, goodOp C o = true) →
    ∀ μ w b cs t d k x, St C gd w0 μ s h rd b t d cs w → OAt C gd w0 μ h.next s cs rd b (lone (frm b t d (.inRegion ops (Region.schedule (C.P.follows .mixedOrders) ops x) :: k)) cs w) k r

section
variable {C : Ctx} {gd : List Oper → Bool} {w0 : World}

theorem loopOf_eq {o : AObj} {r : ALoop} (h : loopOf o = some r) : o = .loop r := by
  unfold loopOf at h; split at h
  · simp at h; subst h; rfl
  · simp at h

theorem enterLoop_sim {μ : Mu} {s : FrS} {h : Heap} {rd : Option Nat} {b : Frame} {t : Array Value} {d : List Deferred} {cs : List Frame} {w : World} (S : St C gd w0 μ s h rd b t d cs w) {params : Array Tmp} {assign body : Code} {q : Nat × List Deferred × Heap}
    (ga : goodCode C gd assign = true) (gb : goodCode C gd body = true) (hq : enterLoopA rd s.tmps params.toList assign body h = some q) :
    ∃ L mark w' μ' e, (Instr.enterLoop b.fn t params assign body b.roundOf).run C.P w = .ok (L, mark) w' ∧ μ' q.1 = some e ∧ L = e.blk ∧ DRels μ' q.2.1 mark ∧ μ.le μ' ∧ Fresh h.next μ μ' ∧ h.next ≤ q.2.2.next ∧ HRel (goodP C gd) w0 μ' q.2.2 w' := by
  have hf := S.H.fresh
  have hpos := S.H.pos
  cases rd with
  | none =>
    have hro : b.roundOf = none := by
      have := S.R
      cases hb : b.roundOf with
      | none => rfl
      | some l => rw [hb] at this; exact this.elim
    simp [enterLoopA] at hq; subst hq
    have H1 : HRel (goodP C gd) w0 (μ.upd h.next ⟨w.heap.size, 0, 0, 0⟩) (h.alloc (.deferred true)) (w.alloc (.deferred (some []))) :=
      (S.H.allocA (.deferred true)).grew 0 0 hf (by omega) (by simp) (Heap.get_alloc_self _ _) (Grew.alloc w _) ⟨S.H.size, rfl⟩
    have hf1 := H1.fresh
    simp only [Heap.next_alloc] at hf1
    have hle1 : μ.le (μ.upd h.next ⟨w.heap.size, 0, 0, 0⟩) := Mu.le_upd _ hf
    have hle2 : (μ.upd h.next ⟨w.heap.size, 0, 0, 0⟩).le ((μ.upd h.next ⟨w.heap.size, 0, 0, 0⟩).upd (h.next + 1) ⟨(w.alloc (.deferred (some []))).heap.size, 0, 0, 0⟩) := Mu.le_upd _ hf1
    have H2 : HRel (goodP C gd) w0 ((μ.upd h.next ⟨w.heap.size, 0, 0, 0⟩).upd (h.next + 1) ⟨(w.alloc (.deferred (some []))).heap.size, 0, 0, 0⟩) ((h.alloc (.deferred true)).alloc (.loop (loopRec s.tmps params.toList assign body h.next)))
        ((w.alloc (.deferred (some []))).alloc (.loop { state := .ready, pending := none, fn := b.fn, tmps := t, params, assign, body, defers := w.heap.size })) := by
      refine (H1.allocA (.loop (loopRec s.tmps params.toList assign body h.next))).grew 0 0 hf1 (by omega) (by simp) (Heap.get_alloc_self _ _) (Grew.alloc _ _) ⟨H1.size, _, rfl, ?_⟩
      exact { state := rfl, pending := rfl, tmps := S.T.mono (hle1.trans hle2), params := rfl, assign := rfl, body := rfl, goodA := ga, goodB := gb, goodP := (by intro c hc; cases hc), defers := ⟨_, hle2 _ _ (Mu.upd_self _ _ _), rfl⟩ }
    refine ⟨_, [{ target := .collected w.heap.size, args := #[] }], _, _, _, ?_, Mu.upd_self _ _ _, rfl, ?_, hle1.trans hle2, ?_, by simp only [Heap.next_alloc]; omega, H2⟩
    · simp [Instr.enterLoop, hro]
    · exact ⟨⟨_, hle2 _ _ (Mu.upd_self _ _ _), rfl⟩, trivial⟩
    · exact Fresh.trans (m := h.next + 1) (by omega) (Fresh.upd _ _ (Nat.le_refl _)) (Fresh.upd _ _ (Nat.le_refl _))
  | some l =>
    obtain ⟨r, hr, h1⟩ := obind_eq hq
    obtain ⟨o, ho, hlo⟩ := obind_eq hr
    obtain rfl := loopOf_eq hlo
    simp at h1; subst h1
    obtain ⟨L0, hro, e, he, rfl⟩ : ∃ L0, b.roundOf = some L0 ∧ ∃ e, μ l = some e ∧ L0 = e.blk := by
      have := S.R
      cases hb : b.roundOf with
      | none => rw [hb] at this; exact this.elim
      | some l0 => rw [hb] at this; exact ⟨l0, rfl, this⟩
    obtain ⟨hge, L, hob, LR⟩ := S.H.obj l e _ he ho
    obtain ⟨de, hde, hdl⟩ := LR.defers
    have hle : μ.le (μ.upd h.next ⟨w.heap.size, 0, 0, 0⟩) := Mu.le_upd _ hf
    refine ⟨w.heap.size, [], w.alloc (.loop { state := .ready, pending := none, fn := b.fn, tmps := t, params, assign, body, defers := L.defers }), μ.upd h.next ⟨w.heap.size, 0, 0, 0⟩, ⟨w.heap.size, 0, 0, 0⟩, ?_, Mu.upd_self _ _ _, rfl, trivial, hle, Fresh.upd _ _ (Nat.le_refl _), by simp, ?_⟩
    · simp [Instr.enterLoop, hro, Instr.getLoop, getObj_of rfl hob]
    · refine (S.H.allocA (.loop (loopRec s.tmps params.toList assign body r.defers))).grew 0 0 hf (by omega) (by simp) (Heap.get_alloc_self _ _) (Grew.alloc _ _) ⟨S.H.size, _, rfl, ?_⟩
      exact { state := rfl, pending := rfl, tmps := S.T.mono hle, params := rfl, assign := rfl, body := rfl, goodA := ga, goodB := gb, goodP := (by intro c hc; cases hc), defers := ⟨de, hle _ _ hde, hdl⟩ }
end
end Go.Am

/- The abstract machine, part 21: a frame's every step; the evaluator's word is the model's. -/
namespace Go.Am
open Go

section
variable {C : Ctx} {gd : List Oper → Bool} {w0 : World} (hOk : C.Ok gd w0) {self : Self} (hS : SelfOK C gd w0 self) (hD : DrawOK C gd w0 self)
include hOk hS hD

/-- what a step's outcome has to be -/
def Goal (C : Ctx) (gd : List Oper → Bool) (w0 : World) (μ : Mu) (n : Nat) (s : FrS) (cs : List Frame) (rd : Option Nat) (b : Frame) (M0 : Machine) (r : FEnd) (s' : FrS) (h' : Heap) : Prop :=
  ∃ s2 μ' w' tmps' ds' cs', Near r s' s2 ∧ Aft C gd w0 μ n s cs rd b s2 h' μ' tmps' ds' cs' w' ∧ EndsAt C.P M0 b tmps' ds' cs' w' μ' r

theorem region_sim {μ : Mu} {s : FrS} {h : Heap} {rd : Option Nat} {b : Frame} {t : Array Value} {d : List Deferred} {cs : List Frame} {w : World} (S : St C gd w0 μ s h rd b t d cs w) {id : Nat} {ops : Array Oper} {draw : Bool} {k : List Item}
    (hg : goodRegion C gd ops.toList draw = true) (gk : goodItems C gd k) {r : FEnd} {s' : FrS} {h' : Heap} (hr : stRegion C self rd ops.toList k s h draw = some (r, s', h')) :
    Goal C gd w0 μ h.next s cs rd b (lone (frm b t d (.code (.region id ops draw) :: k)) cs w) r s' h' := by
  obtain ⟨hg1, hg2⟩ := (Bool.and_eq_true _ _).mp hg
  have hgo : ∀ o ∈ ops.toList, goodOp C o = true := List.all_eq_true.1 hg1
  have fin : ∀ {μ1 : Mu} {w1 : World} {ro : ORes} {M1 : Machine}, Steps C.P (lone (frm b t d (.code (.region id ops draw) :: k)) cs w) M1 → afterOps self rd k ro = some (r, s', h') → OAt C gd w0 μ h.next s cs rd b M1 k ro →
      Goal C gd w0 μ h.next s cs rd b (lone (frm b t d (.code (.region id ops draw) :: k)) cs w) r s' h' := by
    intro μ1 w1 ro M1 hs hro hO
    cases ro with
    | ok s1 h1 =>
      obtain ⟨μ', w', t', d', cs', A, hs2⟩ := hO
      exact hS.cont A (hs.trans hs2) hro gk
    | panic v s1 h1 =>
      simp [afterOps] at hro
      obtain ⟨rfl, rfl, rfl⟩ := hro
      obtain ⟨s2, μ', w', t', d', cs', nr, A, E⟩ := hO
      exact ⟨s2, μ', w', t', d', cs', nr, A, E.of_steps hs⟩
  cases draw with
  | false =>
    obtain ⟨ro, h1, h2⟩ := obind_eq hr
    have := ops_at (k := k) (rd := rd) (b := b) hOk hS hgo ops.toList [] rfl h1 S
    refine fin (μ1 := μ) (w1 := w) (.one st_region) h2 ?_
    have e : List.range ops.size = List.range' 0 ops.toList.length := by simp [List.range_eq_range']
    rw [e]
    exact this
  | true =>
    obtain ⟨ro, h1, h2⟩ := obind_eq hr
    have S1 : St C gd w0 μ s h rd b t d cs w.drew := ⟨S.H.quiet (Quiet.drew w), S.T, S.D, S.R, S.N, S.G⟩
    exact fin (μ1 := μ) (w1 := w) (.one st_draw) h2 (hD ops rd s h ro h1 hg2 hgo μ w.drew b cs t d k _ S1)

theorem range_func_sim {μ : Mu} {s : FrS} {h : Heap} {rd : Option Nat} {b : Frame} {t : Array Value} {d : List Deferred} {cs : List Frame} {w : World} (S : St C gd w0 μ s h rd b t d cs w) {f : Operand} {params : Array Tmp} {assign body : Code} {k : List Item}
    (gf : goodO C f = true) (ga : goodCode C gd assign = true) (gb : goodCode C gd body = true) (gk : goodItems C gd k) {r : FEnd} {s' : FrS} {h' : Heap} (hr : stRange C self rd params.toList assign body k s h (ev s.tmps f) = some (r, s', h')) :
    Goal C gd w0 μ h.next s cs rd b (lone (frm b t d (.code (.rangeFunc f params assign body) :: k)) cs w) r s' h' := by
  have _ := hD
  unfold stRange at hr
  split at hr
  case h_2 => simp at hr
  rename_i fn first cap hval
  obtain ⟨q, hq, h1⟩ := obind_eq hr
  obtain ⟨res, hres, h2⟩ := obind_eq h1
  obtain ⟨L, mark, w1, μ1, e, hrun, he, rfl, hmark, hle, hfr, hn, H1⟩ := enterLoop_sim (params := params) S ga gb hq
  have hf := ev_rel (b := b) (ds := mark ++ d) (todo := .inRangeFunc e.blk :: k) S.G S.T gf
  rw [hval] at hf
  obtain ⟨FN, FIRST, CAP, hRf, hfn, hfi, hca⟩ := hf.func_inv
  have hyl : VRel μ1 (.func (.yield q.1) ⟨[]⟩ ⟨[]⟩) (.func (.yield e.blk) #[] #[]) := .func _ _ _ _ _ _ (.yield _ e he) rfl rfl (fun i x X a _ => by simp at a) (fun i x X a _ => by simp at a)
  have hA : VRels μ1 (first.toList ++ [Value.func (.yield q.1) ⟨[]⟩ ⟨[]⟩]) (FIRST ++ #[Value.func (.yield e.blk) #[] #[]]).toList := by
    simpa using (hfi.mono hle).append (VRels.cons hyl .nil)
  have hrun2 : (do let dd ← resolve (frm b t (mark ++ d) (.inRangeFunc e.blk :: k)).eval { callee := .value f, args := #[.const (.func (.yield e.blk) #[] #[])], argTypes := #[] } 0; invoke dd.target dd.args : Sem Next).run C.P w1 =
      (invoke (.fn FN CAP) (FIRST ++ #[Value.func (.yield e.blk) #[] #[]])).run C.P w1 := by
    have hmap : (#[Operand.const (.func (.yield e.blk) #[] #[])] : Array Operand).map (frm b t (mark ++ d) (.inRangeFunc e.blk :: k)).eval = #[Value.func (.yield e.blk) #[] #[]] := by simp [Frame.eval]
    simp only [resolve, hmap, hRf, Deferred.ofValue, Sem.run_bind, Sem.run_pure, Result.andThen_ok]
  have hst : (stepG C.P true { frame := frm b t d (.code (.rangeFunc f params assign body) :: k), callers := cs, status := .running, dying := none } w).bare =
      (stepG.apply C.P true (frm b t (mark ++ d) (.inRangeFunc e.blk :: k)) cs none (do let dd ← resolve (frm b t (mark ++ d) (.inRangeFunc e.blk :: k)).eval { callee := .value f, args := #[.const (.func (.yield e.blk) #[] #[])], argTypes := #[] } 0; invoke dd.target dd.args) w1).bare := by
    simp only [stepG, stepG.exec, frm, Sem.runT_eq, hrun, GStep.bare_after]
  obtain ⟨μ2, w2, hle2, hfr2, hg⟩ := applyFn_sim hOk hS hres (hfn.mono' hle) (hca.mono hle) hA H1 (S.G.mono hle) rfl hrun2 hst
  cases res with
  | panic v h2' =>
    simp [afterRange] at h2
    obtain ⟨rfl, rfl, rfl⟩ := h2
    obtain ⟨hn2, H2, V, hv, hs⟩ := hg
    refine ⟨_, μ2, w2, t, mark ++ d, cs, .inl rfl, ⟨hle.trans hle2, Fresh.trans hn hfr hfr2, Nat.le_trans hn hn2, ⟨H2, S.T.mono (hle.trans hle2), (hmark.mono hle2).append (S.D.mono (hle.trans hle2)), S.R.mono (hle.trans hle2), S.N.mono (hle.trans hle2), S.G.mono (hle.trans hle2)⟩, Cs.refl _ _⟩, _, V, hv, hs⟩
  | ret v h2' p =>
    obtain ⟨hn2, H2, V, hv, hs⟩ := hg
    have h2 : endLoopA self rd k s q.1 q.2.1 h2' = some (r, s', h') := h2
    obtain ⟨x, hx, h3⟩ := obind_eq h2
    obtain ⟨o, ho, hlo⟩ := obind_eq hx
    obtain rfl := loopOf_eq hlo
    obtain ⟨hb, h4⟩ := guardB_eq h3
    have he2 := hle2 _ _ he
    obtain ⟨hge, L, hob, LR⟩ := H2.obj _ e _ he2 ho
    have hst : ¬ L.state = .busy := by
      rw [LR.state]
      cases hx : x.state <;> rw [hx] at hb <;> first | (simp; done) | (simp [isBusy] at hb)
    have hend : (Instr.endLoop e.blk).run C.P w2 = .ok x.pending { w2 with heap := w2.heap.setIfInBounds e.blk (.loop { L with state := .exhausted }) } := by
      simp [Instr.endLoop, Instr.getLoop, getObj_of rfl hob, setObj_of rfl hob, hst, LR.pending]
    have H3 : HRel (goodP C gd) w0 μ2 (h2'.set q.1 (.loop (x.turn .exhausted x.pending))) { w2 with heap := w2.heap.setIfInBounds e.blk (.loop { L with state := .exhausted }) } :=
      H2.turned he2 ho rfl rfl (Turned.setObj hob) ⟨hge, _, rfl, { LR with state := rfl }⟩
    have hk2 : goodItems C gd (itemsOf x.pending k) := by
      cases hp : x.pending with
      | none => exact gk
      | some c => exact goodItems.cons (LR.goodP c hp) gk
    have hitems : (x.pending.map Item.code).toList ++ k = itemsOf x.pending k := by cases x.pending <;> rfl
    have s3 : Go.step C.P (lone ((frm b t (mark ++ d) (.inRangeFunc e.blk :: k)).finish V) cs w2) =
        .next (lone (frm b t (mark ++ d) (itemsOf x.pending k)) cs { w2 with heap := w2.heap.setIfInBounds e.blk (.loop { L with state := .exhausted }) }) := by
      rw [← hitems]
      exact step_lone_go (by simp [stepG, stepG.exec, frm, Frame.finish, hend])
    have A : Aft C gd w0 μ h.next s cs rd b (s.mark q.2.1) (h2'.set q.1 (.loop (x.turn .exhausted x.pending))) μ2 t (mark ++ d) cs { w2 with heap := w2.heap.setIfInBounds e.blk (.loop { L with state := .exhausted }) } :=
      ⟨hle.trans hle2, Fresh.trans hn hfr hfr2, Nat.le_trans hn hn2, ⟨H3, S.T.mono (hle.trans hle2), (hmark.mono hle2).append (S.D.mono (hle.trans hle2)), S.R.mono (hle.trans hle2), S.N.mono (hle.trans hle2), S.G.mono (hle.trans hle2)⟩, Cs.refl _ _⟩
    exact hS.cont A (hs.trans (.one s3)) h4 hk2

theorem code_sim {μ : Mu} {s : FrS} {h : Heap} {rd : Option Nat} {b : Frame} {t : Array Value} {d : List Deferred} {cs : List Frame} {w : World} (S : St C gd w0 μ s h rd b t d cs w) {c : Code} {k : List Item}
    (gc : goodCode C gd c = true) (gk : goodItems C gd k) {r : FEnd} {s' : FrS} {h' : Heap} (hr : stCode C self rd k s h c = some (r, s', h')) :
    Goal C gd w0 μ h.next s cs rd b (lone (frm b t d (.code c :: k)) cs w) r s' h' := by
  have A := Aft.refl S
  cases c <;> simp only [stCode] at hr <;> try (simp at hr; done)
  case skip => exact hS.cont A (.one st_skip) hr gk
  case label l => exact hS.cont A (.one st_label) hr gk
  case ret =>
    simp at hr
    obtain ⟨rfl, rfl, rfl⟩ := hr
    exact ⟨_, μ, w, t, d, cs, .inl rfl, A, _, ⟨k, rfl⟩, .refl _ _⟩
  case seq x y =>
    obtain ⟨g1, g2⟩ := (Bool.and_eq_true _ _).mp gc
    exact hS.cont A (.one st_seq) hr (goodItems.cons g1 (goodItems.cons g2 gk))
  case block id x => exact hS.cont A (.one st_block) hr (goodItems.cons gc (goodItems.cons trivial gk))
  case loop x => exact hS.cont A (.one st_loop) hr (goodItems.cons gc (goodItems.cons gc gk))
  case scope x => exact hS.cont A (.one st_scope) hr (goodItems.cons gc (goodItems.cons trivial gk))
  case exit id =>
    unfold stExit at hr
    cases hx : exitTo id k with
    | some k' =>
      rw [hx] at hr
      exact hS.cont A (.one (st_exit hx)) hr (exitTo_good hx gk)
    | none =>
      rw [hx] at hr
      simp at hr
      obtain ⟨rfl, rfl, rfl⟩ := hr
      exact ⟨_, μ, w, t, d, cs, .inl rfl, A, _, ⟨k, rfl, hx⟩, .refl _ _⟩
  case cond c x y =>
    obtain ⟨g1, g2⟩ := (Bool.and_eq_true _ _).mp gc
    obtain ⟨g3, g4⟩ := (Bool.and_eq_true _ _).mp g2
    have hv := ev_rel (b := b) (ds := d) (todo := .code (.cond c x y) :: k) S.G S.T g1
    unfold stCond at hr
    split at hr
    · rename_i hb
      rw [hb] at hv
      exact hS.cont A (.one (st_cond hv.bool_inv)) hr (goodItems.cons g3 gk)
    · rename_i hb
      rw [hb] at hv
      exact hS.cont A (.one (st_cond hv.bool_inv)) hr (goodItems.cons g4 gk)
    · simp at hr
  case region id ops draw => exact region_sim hOk hS hD S gc gk hr
  case rangeFunc f params assign body =>
    obtain ⟨g1, g2⟩ := (Bool.and_eq_true _ _).mp gc
    obtain ⟨g3, g4⟩ := (Bool.and_eq_true _ _).mp g2
    exact range_func_sim hOk hS hD S g1 g3 g4 gk hr

theorem item_sim {μ : Mu} {s : FrS} {h : Heap} {rd : Option Nat} {b : Frame} {t : Array Value} {d : List Deferred} {cs : List Frame} {w : World} (S : St C gd w0 μ s h rd b t d cs w) {it : Item} {k : List Item}
    (gi : goodItem C gd it) (gk : goodItems C gd k) {r : FEnd} {s' : FrS} {h' : Heap} (hr : stItem C self rd k s h it = some (r, s', h')) :
    Goal C gd w0 μ h.next s cs rd b (lone (frm b t d (it :: k)) cs w) r s' h' := by
  have A := Aft.refl S
  cases it <;> simp only [stItem] at hr <;> try (simp at hr; done)
  case code c => exact code_sim hOk hS hD S gi gk hr
  case inBlock id => exact hS.cont A (.one st_inBlock) hr gk
  case inScope c => exact hS.cont A (.one st_inScope) hr gk
  case inLoop c => exact hS.cont A (.one st_inLoop) hr (goodItems.cons gi (goodItems.cons gi gk))
  case beginRound =>
    obtain ⟨l, hl, h1⟩ := obind_eq hr
    obtain ⟨x, hx, h2⟩ := obind_eq h1
    obtain ⟨o, ho, hlo⟩ := obind_eq hx
    obtain rfl := loopOf_eq hlo
    obtain ⟨hrd, h3⟩ := guardB_eq h2
    subst hl
    obtain ⟨e, he, hro⟩ : ∃ e, μ l = some e ∧ b.roundOf = some e.blk := by
      have := S.R
      cases hb : b.roundOf with
      | none => rw [hb] at this; exact this.elim
      | some l0 => rw [hb] at this; obtain ⟨e, he, rfl⟩ := this; exact ⟨e, he, rfl⟩
    obtain ⟨hge, L, hob, LR⟩ := S.H.obj _ e _ he ho
    have hstate : L.state = .ready := by
      rw [LR.state]
      cases hx : x.state <;> rw [hx] at hrd <;> first | rfl | (simp [isReady] at hrd)
    have hrun : (Instr.beginRound e.blk).run C.P w = .ok () { w with heap := w.heap.setIfInBounds e.blk (.loop { L with state := .busy }) } := by
      simp [Instr.beginRound, Instr.getLoop, getObj_of rfl hob, setObj_of rfl hob, hstate]
    have H3 : HRel (goodP C gd) w0 μ (h.set l (.loop (x.turn .busy x.pending))) { w with heap := w.heap.setIfInBounds e.blk (.loop { L with state := .busy }) } :=
      S.H.turned he ho rfl rfl (Turned.setObj hob) ⟨hge, _, rfl, { LR with state := rfl }⟩
    have hrun2 : (do (frm b t d (.beginRound :: k)).roundOf.elim (stuck "beginRound: no round") Instr.beginRound; pure .skip : Sem Next).run C.P w = .ok .skip { w with heap := w.heap.setIfInBounds e.blk (.loop { L with state := .busy }) } := by
      have : (frm b t d (.beginRound :: k)).roundOf = some e.blk := hro
      rw [this]
      simp [hrun]
    have s1 : Go.step C.P (lone (frm b t d (.beginRound :: k)) cs w) = .next (lone (frm b t d k) cs { w with heap := w.heap.setIfInBounds e.blk (.loop { L with state := .busy }) }) := by
      refine step_lone_go ?_
      have e1 : stepG C.P true { frame := frm b t d (.beginRound :: k), callers := cs, status := .running, dying := none } w =
          stepG.apply C.P true (frm b t d (.beginRound :: k)) cs none (do (frm b t d (.beginRound :: k)).roundOf.elim (stuck "beginRound: no round") Instr.beginRound; pure .skip) w := by
        simp only [stepG, stepG.exec, frm]
      rw [e1]
      simp only [stepG.apply, Sem.runT_eq, if_true, hrun2, GStep.bare_after, GStep.bare_go]
      rfl
    exact hS.cont (S.same (h' := h.set l (.loop (x.turn .busy x.pending))) (fun _ _ a => a) (Fresh.refl _ _) (Nat.le_refl _) H3) (.one s1) h3 gk

theorem step_sim : SelfOK C gd w0 (step C self) := by
  intro rd k s h r s' h' hr gk μ w b cs t d S
  cases k with
  | nil =>
    simp [step] at hr
    obtain ⟨rfl, rfl, rfl⟩ := hr
    exact ⟨_, μ, w, t, d, cs, .inl rfl, Aft.refl S, [], rfl, .refl _ _⟩
  | cons it k => exact item_sim hOk hS hD S gk.head gk.tail hr
end

/-- the evaluator's word is the model's -/
theorem run_sound {C : Ctx} {gd : List Oper → Bool} {w0 : World} (hOk : C.Ok gd w0) (hD : ∀ self, SelfOK C gd w0 self → DrawOK C gd w0 self) : ∀ n, SelfOK C gd w0 (run C n)
  | 0 => by
    intro rd k s h r s' h' hr
    have hr : (none : Fin) = some (r, s', h') := hr
    simp at hr
  | n + 1 => step_sim hOk (run_sound hOk hD n) (hD _ (run_sound hOk hD n))
end Go.Am

/- The abstract machine, part 22: sameness; what early operations and effects depend on. -/
namespace Go.Am
open Go

/- SAMENESS IS EQUALITY -/
theorem natBeq {a b : Nat} (h : Nat.beq a b = true) : a = b := Nat.eq_of_beq_eq_true h

theorem sameAddrB_eq {a b : Option Addr} (h : sameAddrB a b = true) : a = b := by
  cases a <;> cases b <;> simp only [sameAddrB, Bool.and_eq_true, Bool.false_eq_true] at h
  · rfl
  · rename_i x y
    obtain ⟨⟨h1, h2⟩, h3⟩ := h
    obtain ⟨b1, o1, s1⟩ := x
    obtain ⟨b2, o2, s2⟩ := y
    have h1 : b1 = b2 := natBeq h1
    have h2 : o1 = o2 := natBeq h2
    have h3 : s1 = s2 := beq_iff_eq.1 h3
    rw [h1, h2, h3]

theorem arr_empty {α : Type} {xs : Array α} (h : xs.toList.isEmpty = true) : xs = #[] := by
  apply Array.ext'
  simpa using h

theorem strEq_imp {a b : ByteArray} (h : strEq a b = true) : a = b := by
  rw [strEq_eq'] at h
  have e : (a == b) = (a.data == b.data) := rfl
  rw [e] at h
  exact ByteArray.ext (by simpa using h)

theorem sameC_eq {v w : Value} (h : sameC v w = true) : v = w := by
  unfold sameC at h
  split at h <;> try (simp at h; done)
  · have := (beq_iff_eq).1 h; subst this; rfl
  · obtain ⟨h1, h2⟩ := (Bool.and_eq_true _ _).mp h
    have h1 := of_decide_eq_true h1
    have h2 := of_decide_eq_true h2
    subst h1; subst h2; rfl
  · rw [strEq_imp h]
  · rw [sameAddrB_eq h]
  · obtain ⟨h1, h3⟩ := (Bool.and_eq_true _ _).mp h
    obtain ⟨h1, h2⟩ := (Bool.and_eq_true _ _).mp h1
    rw [sameAddrB_eq h1, natBeq h2, natBeq h3]
  · rfl
  · rw [natBeq h]
  · rfl
  · rfl
  · obtain ⟨h1, h5⟩ := (Bool.and_eq_true _ _).mp h
    obtain ⟨h1, h4⟩ := (Bool.and_eq_true _ _).mp h1
    obtain ⟨h1, h3⟩ := (Bool.and_eq_true _ _).mp h1
    obtain ⟨h1, h2⟩ := (Bool.and_eq_true _ _).mp h1
    rw [natBeq h1, arr_empty h2, arr_empty h3, arr_empty h4, arr_empty h5]

theorem sameCs_eq {l : List Value} : ∀ {m : List Value}, sameCs l m = true → l = m := by
  induction l with
  | nil =>
    intro m h
    cases m with
    | nil => rfl
    | cons y m => simp [sameCs, lrec_nil] at h
  | cons x l ih =>
    intro m h
    cases m with
    | nil => simp [sameCs, lrec_cons] at h
    | cons y m =>
      have h : (match sameC x y with | true => sameCs l m | false => false) = true := h
      cases hc : sameC x y with
      | false => rw [hc] at h; simp at h
      | true => rw [hc] at h; rw [sameC_eq hc, ih h]

theorem sameW_eq {v w : Value} (h : sameW v w = true) : v = w := by
  unfold sameW at h
  split at h
  · have := sameCs_eq h; congr 1; exact Array.ext' this
  · exact sameC_eq h
theorem sameWs_eq {l : List Value} : ∀ {m : List Value}, sameWs l m = true → l = m := by
  induction l with
  | nil =>
    intro m h
    cases m with
    | nil => rfl
    | cons y m => simp [sameWs, lrec_nil] at h
  | cons x l ih =>
    intro m h
    cases m with
    | nil => simp [sameWs, lrec_cons] at h
    | cons y m =>
      have h : (match sameW x y with | true => sameWs l m | false => false) = true := h
      cases hc : sameW x y with
      | false => rw [hc] at h; simp at h
      | true => rw [hc] at h; rw [sameW_eq hc, ih h]
theorem sameV_eq {v w : Value} (h : sameV v w = true) : v = w := by
  unfold sameV at h
  split at h
  · have := sameCs_eq h; congr 1; exact Array.ext' this
  · have := sameCs_eq h; congr 1; exact Array.ext' this
  · rename_i t v u w
    obtain ⟨h1, h3⟩ := (Bool.and_eq_true _ _).mp h
    obtain ⟨h1, h2⟩ := (Bool.and_eq_true _ _).mp h1
    have h1 := natBeq h1
    have h2 := sameCs_eq h2
    subst h1
    congr 1
    cases v <;> cases w <;> simp [bothAgg] at h3 <;> simp only [cellsOf] at h2 <;> first
      | (congr 1; exact Array.ext' h2)
      | rfl
      | (exact (List.cons.inj h2).1)
  · obtain ⟨h1, h3⟩ := (Bool.and_eq_true _ _).mp h
    obtain ⟨h1, h2⟩ := (Bool.and_eq_true _ _).mp h1
    have h1 := natBeq h1
    have h2 := sameWs_eq h2
    have h3 := sameWs_eq h3
    subst h1
    rw [Array.ext' h2, Array.ext' h3]
  · obtain ⟨h1, h5⟩ := (Bool.and_eq_true _ _).mp h
    obtain ⟨h1, h4⟩ := (Bool.and_eq_true _ _).mp h1
    obtain ⟨h1, h3⟩ := (Bool.and_eq_true _ _).mp h1
    obtain ⟨h1, h2⟩ := (Bool.and_eq_true _ _).mp h1
    rw [natBeq h1, arr_empty h2, arr_empty h3, arr_empty h4, arr_empty h5]
  · exact sameC_eq h

theorem sameO_eq {x y : AObj} (h : sameO x y = true) : x = y := by
  unfold sameO at h
  split at h
  · obtain ⟨h1, h3⟩ := (Bool.and_eq_true _ _).mp h
    obtain ⟨h1, h2⟩ := (Bool.and_eq_true _ _).mp h1
    rw [sameCs_eq h1, natBeq h2, (beq_iff_eq).1 h3]
  · rw [natBeq h]
  · simp at h

/- HEAPS THAT HOLD MORE -/
def HLe (h h' : Heap) : Prop := h.next ≤ h'.next ∧ ∀ i o, h.get i = some o → h'.get i = some o
theorem HLe.refl (h : Heap) : HLe h h := ⟨Nat.le_refl _, fun _ _ a => a⟩
theorem HLe.trans {a b c : Heap} (h : HLe a b) (h' : HLe b c) : HLe a c := ⟨Nat.le_trans h.1 h'.1, fun i o hi => h'.2 i o (h.2 i o hi)⟩
theorem HLe.alloc {h : Heap} (hf : freshAt (h.get h.next) = true) (o : AObj) : HLe h (h.alloc o) := by
  refine ⟨by simp, fun i p a => ?_⟩
  rw [Heap.get_alloc_ne]
  · exact a
  · rintro rfl; rw [a] at hf; simp [freshAt] at hf

theorem obind_mono {α β : Type} {o o' : Option α} {f f' : α → Option β} {b : β} (h : obind o f = some b) (ho : ∀ a, o = some a → o' = some a) (hf : ∀ a, f a = some b → f' a = some b) : obind o' f' = some b := by
  obtain ⟨a, ha, h1⟩ := obind_eq h
  rw [ho a ha]
  exact hf a h1

section
variable {C : Ctx} {ρ : Operand → Value}

theorem rowAt_mono {h h' : Heap} (hl : HLe h h') {b : Nat} {c : List Value} (hr : rowAt h b = some c) : rowAt h' b = some c :=
  obind_mono hr (fun o ho => hl.2 b o ho) (fun _ a => a)

theorem entriesOf_mono {h h' : Heap} (hl : HLe h h') {m : Value} {es : List MapEntry} (hr : entriesOf h m = some es) : entriesOf h' m = some es := by
  unfold entriesOf at hr ⊢
  split at hr
  · exact hr
  · exact obind_mono hr (fun a ha => obind_mono ha (fun o ho => hl.2 _ o ho) (fun _ a => a)) (fun _ a => a)
  · simp at hr

theorem sliceCells_mono {h h' : Heap} (hl : HLe h h') {s n : Nat} {x : Value} {l : List Value} (hr : sliceCells h s n x = some l) : sliceCells h' s n x = some l := by
  unfold sliceCells at hr ⊢
  split at hr
  · cases n with
    | zero => exact hr
    | succ n => exact obind_mono hr (fun a ha => rowAt_mono hl ha) (fun _ a => a)
  · exact hr
  · exact hr
  · simp at hr

theorem early_mono {h h' : Heap} (hl : HLe h h') {op : Op} {e : EV} (he : earlyVal C ρ h op = some e) : earlyVal C ρ h' op = some e := by
  cases op <;> try exact he
  case load t a => exact obind_mono he (fun v hv => obind_mono hv (fun _ a => a) (fun a ha => obind_mono ha (fun c hc => rowAt_mono hl hc) (fun _ a => a))) (fun _ a => a)
  case lookup t m k ok =>
    exact obind_mono he (fun v hv => obind_mono hv (fun _ a => a) (fun d hd => obind_mono hd (fun _ a => a) (fun q hq => by
      obtain ⟨h1, h2⟩ := guardB_eq hq
      rw [h1]
      exact obind_mono h2 (fun _ a => a) (fun z hz => obind_mono hz (fun es hes => entriesOf_mono hl hes) (fun _ a => a))))) (fun _ a => a)
  case convert s d x =>
    refine obind_mono he (fun _ a => a) (fun ds hds => obind_mono hds (fun _ a => a) (fun dd hdd => ?_))
    split at hdd
    · exact hdd
    · exact hdd
    · rename_i p n c hx
      rw [hx] at hdd ⊢
      revert hdd
      show convSl C (.slice p n c) n h ds dd = some e → convSl C (.slice p n c) n h' ds dd = some e
      intro hdd
      unfold convSl at hdd ⊢
      split at hdd
      · refine obind_mono hdd (fun _ a => a) (fun d hd => ?_)
        obtain ⟨h1, h2⟩ := guardB_eq hd
        rw [h1]
        exact obind_mono h2 (fun l hl' => sliceCells_mono hl hl') (fun _ a => a)
      · simp at hdd
    · simp at hdd
  case call c =>
    obtain ⟨callee, args, ats⟩ := c
    cases callee <;> try exact he
    rename_i b
    cases b <;> try exact he
    simp only [earlyVal, earlyCall] at he ⊢
    split at he
    · refine obind_mono he (fun v hv => obind_mono hv (fun _ a => a) (fun d hd => ?_)) (fun _ a => a)
      unfold lenIn at hd ⊢
      split at hd <;> first
        | exact hd
        | exact obind_mono hd (fun es hes => entriesOf_mono hl hes) (fun _ a => a)
    · simp at he

/-- operations that do not look at the heap -/
theorem early_pure {h h' : Heap} {op : Op} (hb : heapBound op = false) : earlyVal C ρ h op = earlyVal C ρ h' op := by
  cases op <;> first | rfl | (simp [heapBound] at hb)

/-- a new object is the same in every heap -/
theorem early_new {h h' : Heap} {op : Op} {x : AObj} {mk : Nat → Value} (he : earlyVal C ρ h op = some (.new x mk)) : earlyVal C ρ h' op = some (.new x mk) := by
  cases op <;> try exact he
  case load t a =>
    obtain ⟨v, _, h1⟩ := obind_eq he
    simp [asVal] at h1
  case lookup t m k ok =>
    obtain ⟨v, _, h1⟩ := obind_eq he
    simp [asVal] at h1
  case convert s d x' =>
    refine obind_mono he (fun _ a => a) (fun ds hds => obind_mono hds (fun _ a => a) (fun dd hdd => ?_))
    split at hdd
    · exact hdd
    · exact hdd
    · rename_i p n c hx
      unfold convSl at hdd
      split at hdd
      · obtain ⟨d, _, hd⟩ := obind_eq hdd
        obtain ⟨_, h2⟩ := guardB_eq hd
        obtain ⟨l, _, h3⟩ := obind_eq h2
        obtain ⟨l', _, h4⟩ := obind_eq h3
        simp at h4
      · simp at hdd
    · simp at hdd
  case call c =>
    obtain ⟨callee, args, ats⟩ := c
    cases callee <;> try exact he
    rename_i b
    cases b <;> try exact he
    simp only [earlyVal, earlyCall] at he
    split at he
    · obtain ⟨v, _, h1⟩ := obind_eq he
      simp [asVal] at h1
    · simp at he
end
end Go.Am
