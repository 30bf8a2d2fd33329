/- Parts Am31, Am32 of the abstract machine over this program, joined: what each part says stands at its head. -/
import Derived.Test.YtlflfbnnjlkkcaaGreatJAm27
set_option linter.unusedSimpArgs false
set_option linter.unusedVariables false
/- The abstract machine, part 31: a region that draws its order does what its plan does. -/
namespace Go.Am
open Go

section
variable {C : Ctx} {gd : List Oper → Bool} {w0 : World} {self : Self} {rd : Option Nat} {ops : Array Oper} {pl : List PE} {tr : Nat → PSt} {ps : Nat → PsSt}
  {μ0 : Mu} {n0 : Nat} {s0 : FrS} {cs0 : List Frame} {b : Frame} {k : List Item}

theorem one_order (hOk : C.Ok gd w0) (hS : SelfOK C gd w0 self) (hgo : ∀ o ∈ ops.toList, goodOp C o = true) (PO : PlanOK C self rd ops.toList pl tr ps) (hn0 : n0 = (tr 0).2.2.next) (hpos : 0 < n0) {pre L : List Nat} {i : Nat} {o : Oper} (ho : ops[i]? = some o) (hn : i ∉ pre)
    {p : Nat} (hp : pl[p]? = some (.ex i o)) (he : ∀ o, ops[i]? = some o → ∀ e ∈ o.after.toList, Region.binds .any e = true → e.on ∈ pre)
    {P : Nat} {τ : List (List Value)} {μ : Mu} {t : Array Value} {d : List Deferred} {cs : List Frame} {w : World} (hF : Front pl P) (I : RInv C ops.toList pl tr pre P τ μ)
    (A : Aft C gd w0 μ0 n0 s0 cs0 rd b ⟨τ, (tr P).2.1.defers, (tr P).2.1.pan⟩ (tr P).2.2 μ t d cs w) :
    ∃ P2 τ2 μ2 t2 d2 cs2 w2, Front pl P2 ∧ RInv C ops.toList pl tr (i :: pre) P2 τ2 μ2 ∧ Aft C gd w0 μ0 n0 s0 cs0 rd b ⟨τ2, (tr P2).2.1.defers, (tr P2).2.1.pan⟩ (tr P2).2.2 μ2 t2 d2 cs2 w2 ∧
      Steps C.P (lone (frm b t d (.inRegion ops (i :: L) :: k)) cs w) (lone (frm b t2 d2 (.inRegion ops L :: k)) cs2 w2) := by
  have ho' : ops.toList[i]? = some o := by rw [Array.getElem?_toList]; exact ho
  have hpl := (List.getElem?_eq_some_iff.1 hp).1
  have hm : ∀ j, (msk ops.toList i).testBit j = true → j ∈ pre := mask_in I.closed ho' (fun e h1 h2 => he o ho e h1 h2)
  obtain ⟨hev, hwa⟩ := I.rt.evs PO.h0 PO.hps I.closed hp hn hm
  have hwt : wantedA ops.toList o τ = Region.wanted o (yielded ops t) := wanted_eq A.st.T ops o
  have hgoo := hgo o (List.mem_of_getElem? ho')
  -- the state behind the operation, the plan moved on
  have fin : ∀ {P1 : Nat} {τ1 : List (List Value)} {μ1 : Mu} {t1 : Array Value} {d1 : List Deferred} {cs1 : List Frame} {w1 : World}, RInv C ops.toList pl tr (i :: pre) P1 τ1 μ1 →
      Aft C gd w0 μ0 n0 s0 cs0 rd b ⟨τ1, (tr P1).2.1.defers, (tr P1).2.1.pan⟩ (tr P1).2.2 μ1 t1 d1 cs1 w1 →
      Steps C.P (lone (frm b t d (.inRegion ops (i :: L) :: k)) cs w) (lone (frm b t1 d1 (.inRegion ops L :: k)) cs1 w1) →
      ∃ P2 τ2 μ2 t2 d2 cs2 w2, Front pl P2 ∧ RInv C ops.toList pl tr (i :: pre) P2 τ2 μ2 ∧ Aft C gd w0 μ0 n0 s0 cs0 rd b ⟨τ2, (tr P2).2.1.defers, (tr P2).2.1.pan⟩ (tr P2).2.2 μ2 t2 d2 cs2 w2 ∧
        Steps C.P (lone (frm b t d (.inRegion ops (i :: L) :: k)) cs w) (lone (frm b t2 d2 (.inRegion ops L :: k)) cs2 w2) := by
    intro P1 τ1 μ1 t1 d1 cs1 w1 I1 A1 hs
    obtain ⟨P2, hF2, I2, A2⟩ := advance PO (pl.length - P1) P1 (Nat.le_refl _) I1 A1
    exact ⟨P2, _, _, _, _, _, _, hF2, I2, A2, hs⟩
  have pend_keep : ∀ p' i' o' x mk, p' < P → Did C ops.toList pl tr p' i' o' (.new x mk) → i' ∉ i :: pre → μ (tr p').2.2.next = none := fun p' i' o' x mk h1 h2 h3 => I.pend p' i' o' x mk h1 h2 (fun h => h3 (List.mem_cons_of_mem _ h))
  have hstep := PO.htr p _ hp
  have putAft : ∀ {μ' : Mu} {w' : World} {v V : Value}, μ.le μ' → Fresh n0 μ μ' → HRel (goodP C gd) w0 μ' (tr P).2.2 w' → VRel μ' v V →
      Aft C gd w0 μ0 n0 s0 cs0 rd b ⟨putA τ o.dst v, (tr P).2.1.defers, (tr P).2.1.pan⟩ (tr P).2.2 μ' (putT t o.dst V) d cs w' := by
    intro μ' w' v V hle hfr H' hv
    have S := A.st.put hle H' o.dst hv
    rw [put_eq] at S
    exact ⟨A.le.trans hle, Fresh.trans (Nat.le_refl _) A.fresh hfr, A.nx, S, A.pan⟩
  cases hw : Region.wanted o (yielded ops t) with
  | false =>
    rw [hw, hwa] at hwt
    have hb : (tr (p + 1)) = ((tr p).1, (tr p).2.1.put o.dst undef, (tr p).2.2) := by
      rcases hstep with ⟨_, h1⟩ | ⟨h1, _⟩ | ⟨h1, _⟩
      · exact h1
      · rw [hwt] at h1; simp at h1
      · rw [hwt] at h1; simp at h1
    have hv : (tr (p + 1)).2.1.tmps = putA (tr p).2.1.tmps o.dst undef := by rw [hb]; simp [put_eq']
    have A1 := putAft (fun _ _ a => a) (Fresh.refl _ _) A.st.H (undef_rel μ)
    have hs : Steps C.P (lone (frm b t d (.inRegion ops (i :: L) :: k)) cs w) (lone (frm b (putT t o.dst undef) d (.inRegion ops L :: k)) cs w) := .one (st_opSkip ho hw)
    cases heff : isEff o.op with
    | false => exact fin (I.early PO hp heff hn hm hv pend_keep) A1 hs
    | true =>
      have hpP := I.eff_eq PO hF hp heff hn hm
      subst hpP
      refine fin (P1 := p + 1) (I.eff PO hp hn hm hv heff (by rw [hb]; exact Nat.le_refl _) (fun _ _ h => h)) ?_ hs
      have e1 : (tr (p + 1)).2.1.defers = (tr p).2.1.defers := by rw [hb]; exact put_defers _ _ _
      have e2 : (tr (p + 1)).2.1.pan = (tr p).2.1.pan := by rw [hb]; exact put_pan _ _ _
      have e3 : (tr (p + 1)).2.2 = (tr p).2.2 := by rw [hb]
      rw [e1, e2, e3]
      exact A1
  | true =>
    rw [hw, hwa] at hwt
    rcases hstep with ⟨h1, _⟩ | ⟨_, heff, _, hE⟩ | ⟨_, heff, e, he1, he2, he3⟩
    · rw [hwt] at h1; simp at h1
    · -- an effect
      have hpP := I.eff_eq PO hF hp heff hn hm
      subst hpP
      obtain ⟨v, D, q, hq1, hq2⟩ := eff_local (τ := (tr p).2.1.tmps) (τ' := τ) (D := (tr p).2.1.defers) (p := (tr p).2.1.pan) (dst := o.dst) (fun x hx => (hev x hx).symm) _ _ hE
      have hA := eff_sim (k := k) (rest := L) hOk hS A.st ho hw hgoo hq2
      obtain ⟨μ', w', t', d', cs', A', hs⟩ := hA
      have e1 : (tr (p + 1)).2.1.defers = D := by rw [hq1]
      have e2 : (tr (p + 1)).2.1.pan = q := by rw [hq1]
      refine fin (P1 := p + 1) (μ1 := μ') (I.eff PO hp hn hm (by rw [hq1]) heff A'.nx ?_) ?_ hs
      · intro j hj hjn
        cases hx : μ' j with
        | none => rfl
        | some y =>
          rcases A'.fresh j y hx with h | h
          · rw [hjn] at h; simp at h
          · omega
      · rw [e1, e2]
        exact A.trans A'
    · -- an early operation
      have hlt := I.early_lt PO hF hp heff hm
      have Dd : Did C ops.toList pl tr p i o e := ⟨hp, heff, hwt, he1⟩
      have hh := I.holds PO hF Dd hn hlt
      have hρ : ∀ x ∈ o.op.operands.toList, VRel μ (ev (tr p).2.1.tmps x) ((frm b t d (.inRegion ops (i :: L) :: k)).eval x) := fun x hx => by
        rw [← hev x hx]
        exact ev_rel A.st.G A.st.T (List.all_eq_true.1 hgoo x hx)
      have hd : ∀ c, o.op ≠ .defer c := by intro c e'; rw [e'] at he1; simp [earlyVal] at he1
      cases e with
      | val v =>
        have hh : earlyVal C (ev (tr p).2.1.tmps) (tr P).2.2 o.op = some (.val v) := hh
        obtain ⟨V, w', hrun, hq, hv⟩ := early_sim hOk.ok0 A.st.H hρ hh
        simp [putEV] at he2
        refine fin (I.early PO hp heff hn hm (v := v) (by rw [← he2.1]; simp [put_eq']) pend_keep) (putAft (fun _ _ a => a) (Fresh.refl _ _) (A.st.H.quiet hq) hv) (.one (st_value ho hw (.inr hd) hrun))
      | new x mk =>
        have hget : (tr P).2.2.get (tr p).2.2.next = some x := hh
        obtain ⟨V, w', O, lim, esz, hrun, hg, hx⟩ := early_sim hOk.ok0 A.st.H hρ (early_new he1 : earlyVal C (ev (tr p).2.1.tmps) (tr P).2.2 o.op = some (.new x mk))
        have hid : μ (tr p).2.2.next = none := I.pend p i o x mk hlt Dd hn
        have hmono0 := I.mono 0 p (by omega) (by omega)
        have hnn := PO.new_next Dd
        have hmono1 := I.mono (p + 1) P (by omega) (Nat.le_refl _)
        obtain ⟨h1, h2⟩ := hx (tr p).2.2.next hid (by omega)
        obtain ⟨_, he2⟩ := guardB_eq he2
        simp at he2
        refine fin (I.early PO hp heff hn hm (v := mk (tr p).2.2.next) (by rw [← he2.1]; simp [put_eq']) ?_) (putAft (Mu.le_upd _ hid) (Fresh.upd _ _ (by omega)) (A.st.H.grew lim esz hid (by omega) (by omega) hget hg h1) h2) (.one (st_value ho hw (.inr hd) hrun))
        intro p' i' o' x' mk' hp' D' hi'
        have hne : (tr p').2.2.next ≠ (tr p).2.2.next := by
          have hpp : p' ≠ p := by
            rintro rfl
            have := D'.at'
            rw [hp] at this; simp at this
            exact hi' (by rw [this.1]; exact List.mem_cons_self)
          rcases Nat.lt_or_ge p' p with h | h
          · have a1 := PO.new_next D'
            have a2 := I.mono (p' + 1) p (by omega) (by omega)
            omega
          · have a2 := I.mono (p + 1) p' (by omega) (by omega)
            omega
        rw [Mu.upd_ne _ _ hne]
        exact pend_keep p' i' o' x' mk' hp' D' hi'

theorem mask_pre {pre : List Nat} {i : Nat} {o : Oper} (hc : Closed ops.toList pre) (ho : ops[i]? = some o) (he : ∀ o, ops[i]? = some o → ∀ e ∈ o.after.toList, Region.binds .any e = true → e.on ∈ pre) : ∀ j, (msk ops.toList i).testBit j = true → j ∈ pre :=
  mask_in hc (by rw [Array.getElem?_toList]; exact ho) (fun e h1 h2 => he o ho e h1 h2)

theorem any_order (hOk : C.Ok gd w0) (hS : SelfOK C gd w0 self) (hgo : ∀ o ∈ ops.toList, goodOp C o = true) (PO : PlanOK C self rd ops.toList pl tr ps) (all : ∀ i o, ops.toList[i]? = some o → ∃ p : Nat, pl[p]? = some (PE.ex i o)) (hn0 : n0 = (tr 0).2.2.next) (hpos : 0 < n0) {pre L : List Nat} (hO : Order ops pre L) :
    ∀ {P : Nat} {τ : List (List Value)} {μ : Mu} {t : Array Value} {d : List Deferred} {cs : List Frame} {w : World}, Front pl P → RInv C ops.toList pl tr pre P τ μ →
      Aft C gd w0 μ0 n0 s0 cs0 rd b ⟨τ, (tr P).2.1.defers, (tr P).2.1.pan⟩ (tr P).2.2 μ t d cs w →
      ∃ μ' w' t' d' cs', Aft C gd w0 μ0 n0 s0 cs0 rd b (tr pl.length).2.1 (tr pl.length).2.2 μ' t' d' cs' w' ∧ Steps C.P (lone (frm b t d (.inRegion ops L :: k)) cs w) (lone (frm b t' d' k) cs' w') := by
  induction hO with
  | done pre h =>
    intro P τ μ t d cs w hF I A
    have hP : P = pl.length := by
      rcases hF with e | ⟨i, o, h1, h2⟩
      · exact e
      · have hi := (List.getElem?_eq_some_iff.1 (PO.own_at h1)).1
        have := (I.effs P i o h1 h2).2 (h i (by simpa using hi))
        omega
    subst hP
    refine ⟨μ, w, t, d, cs, ⟨A.le, A.fresh, A.nx, ⟨A.st.H, ?_, A.st.D, A.st.R, A.st.N, A.st.G⟩, A.pan⟩, .one st_regionEnd⟩
    refine A.st.T.of_same (fun u => I.rt.1 u pl.length (Nat.le_refl _) fun p i o h1 h2 => ?_) (fun u => (I.rt.2 u).trans (tin_all PO.htr (Nat.le_refl _)).symm)
    have hp := (List.getElem?_eq_some_iff.1 h1).1
    have hi := (List.getElem?_eq_some_iff.1 (PO.own_at h1)).1
    exact ⟨fun _ => h i (by simpa using hi), fun _ => hp⟩
  | next pre i L hi hn he hO ih =>
    intro P τ μ t d cs w hF I A
    have ho : ops[i]? = some ops[i] := Array.getElem?_eq_getElem hi
    obtain ⟨p, hp⟩ := all i _ (by rw [Array.getElem?_toList]; exact ho)
    obtain ⟨P2, τ2, μ2, t2, d2, cs2, w2, hF2, I2, A2, hs⟩ := one_order (k := k) (L := L) hOk hS hgo PO hn0 hpos ho hn hp he hF I A
    obtain ⟨μ', w', t', d', cs', A', hs'⟩ := ih hF2 I2 A2
    exact ⟨μ', w', t', d', cs', A', hs.trans hs'⟩

/-- the same, if an effect panics where the plan has come to its end -/
theorem any_panic (hOk : C.Ok gd w0) (hS : SelfOK C gd w0 self) (hgo : ∀ o ∈ ops.toList, goodOp C o = true) {plF : List PE} {psF : Nat → PsSt} {N ip : Nat} {op : Oper} {v : Value} {hv : Heap} (PO : PlanOK C self rd ops.toList (plF.take N) tr ps)
    (h0F : psF 0 = (0, [], [])) (hpsF : ∀ p e, plF[p]? = some e → PassAt ops.toList e (psF p) (psF (p + 1))) (ownF : ∀ x ∈ plF, (∀ i o, x = .ex i o → ops.toList[i]? = some o) ∧ ∀ i o, x = .re i o → ops.toList[i]? = some o)
    (all : ∀ i o, ops.toList[i]? = some o → ∃ p : Nat, plF[p]? = some (PE.ex i o))
    (hN : plF[N]? = some (.ex ip op)) (heff : isEff op.op = true) (hwant : wantedA ops.toList op (tr N).2.1.tmps = true) (hE : effOp C self rd op.dst (tr N).2.1 (tr N).2.2 op.op = some (.panic v (tr N).2.1 hv)) (hbare : (tr N).2.1.defers = [])
    (hn0 : n0 = (tr 0).2.2.next) (hpos : 0 < n0) {pre L : List Nat} (hO : Order ops pre L) :
    ∀ {P : Nat} {τ : List (List Value)} {μ : Mu} {t : Array Value} {d : List Deferred} {cs : List Frame} {w : World}, ip ∉ pre → Front (plF.take N) P → RInv C ops.toList (plF.take N) tr pre P τ μ →
      Aft C gd w0 μ0 n0 s0 cs0 rd b ⟨τ, (tr P).2.1.defers, (tr P).2.1.pan⟩ (tr P).2.2 μ t d cs w →
      OAt C gd w0 μ0 n0 s0 cs0 rd b (lone (frm b t d (.inRegion ops L :: k)) cs w) k (.panic v (tr N).2.1 hv) := by
  have hNl := (List.getElem?_eq_some_iff.1 hN).1
  have hlen : (plF.take N).length = N := by simp; omega
  have hip : ops[ip]? = some op := by have := (ownF _ (List.mem_of_getElem? hN)).1 ip op rfl; rwa [Array.getElem?_toList] at this
  induction hO with
  | done pre h =>
    intro P τ μ t d cs w hnp _ _ _
    exact absurd (h ip (Array.getElem?_eq_some_iff.1 hip).1) hnp
  | next pre i L hi hn he hO ih =>
    intro P τ μ t d cs w hnp hF I A
    have ho : ops[i]? = some ops[i] := Array.getElem?_eq_getElem hi
    have hm := mask_pre I.closed ho he
    obtain ⟨p, hp⟩ := all i _ (by rw [Array.getElem?_toList]; exact ho)
    rcases Nat.lt_trichotomy p N with hlt | heq | hgt
    · have hp' : (plF.take N)[p]? = some (.ex i ops[i]) := by rw [List.getElem?_take_of_lt hlt]; exact hp
      obtain ⟨P2, τ2, μ2, t2, d2, cs2, w2, hF2, I2, A2, hs⟩ := one_order (k := k) (L := L) hOk hS hgo PO hn0 hpos ho hn hp' he hF I A
      have hne : ip ∉ i :: pre := by
        intro h
        rcases List.mem_cons.1 h with h | h
        · have := ex_unique h0F hpsF hp (h ▸ hN); omega
        · exact hnp h
      have := ih hne hF2 I2 A2
      obtain ⟨s2, μ', w', t', d', cs', nr, A', E⟩ := this
      exact ⟨s2, μ', w', t', d', cs', nr, A', E.of_steps hs⟩
    · subst heq
      rw [hN] at hp
      have hpe : ip = i ∧ op = ops[i] := by simpa using hp
      obtain ⟨rfl, hoe⟩ := hpe
      have hPN : P = p := by
        rcases hF with e | ⟨j, o', h1, h2⟩
        · rw [hlen] at e; exact e
        · have hPlt : P < p := by have := (List.getElem?_eq_some_iff.1 h1).1; omega
          have h1' := h1
          rw [List.getElem?_take_of_lt hPlt] at h1'
          have := (I.effs P j o' h1 h2).2 (hm j (behind h0F hpsF hN h1' hPlt (.inl h2)))
          omega
      subst hPN
      obtain ⟨hev, hwa⟩ := evs_of (ops := ops.toList) (o := op) (τ := τ) (τ' := (tr P).2.1.tmps) fun u hu => I.rt.readN h0F hpsF hN hm hu
      have hwt : wantedA ops.toList op τ = Region.wanted op (yielded ops t) := wanted_eq A.st.T ops op
      rw [hwa, hwant] at hwt
      obtain ⟨es, er⟩ := eff_panic (C := C) (self := self) (rd := rd) (τ := (tr P).2.1.tmps) (τ' := τ) (D := (tr P).2.1.defers) (p := (tr P).2.1.pan) (dst := op.dst) (h := (tr P).2.2) (op := op.op) (fun x hx => (hev x hx).symm) _ _ _ hE
      have hgoo := hgo op (List.mem_of_getElem? (by rw [Array.getElem?_toList]; exact hip))
      have hA := eff_sim (k := k) (rest := L) hOk hS A.st hip hwt.symm hgoo er
      obtain ⟨s2, μ', w', t', d', cs', nr, A', E⟩ := hA
      refine ⟨s2, μ', w', t', d', cs', ?_, A.trans A', E⟩
      rcases nr with e | ⟨v', e, e1, e2, e3⟩
      · exact .inr ⟨v, rfl, hbare, by rw [e]; exact hbare, by rw [e]⟩
      · exact .inr ⟨v, rfl, hbare, e2, e3⟩
    · exact absurd (hm ip (behind h0F hpsF hp hN hgt (.inl heff))) hnp
end

/-- a region that draws its order does what the plan does -/
theorem draw_sound {C : Ctx} {w0 : World} {self : Self} (hOk : C.Ok drawOK w0) (hS : SelfOK C drawOK w0 self) : DrawOK C drawOK w0 self := by
  intro ops rd s h r hr hgd hgo μ w b cs t d k x S
  obtain ⟨h1, h2⟩ := (Bool.and_eq_true _ _).mp hgd
  obtain ⟨tr, N, t0, htr, hend⟩ := plan_trace _ hr
  obtain ⟨ps, p0, hps, pe, pa⟩ := pass_trace _ h2
  have hall : ∀ i o, ops.toList[i]? = some o → ∃ p : Nat, (planOf ops.toList)[p]? = some (PE.ex i o) := fun i o h => pos_in p0 hps plan_own pa h
  have inv : ∀ pl : List PE, (∀ p e, pl[p]? = some e → PStep C self rd ops.toList (tr p) (tr (p + 1)) e) → RInv C ops.toList pl tr [] 0 (tr 0).2.1.tmps μ := by
    intro pl htr
    refine ⟨Nat.zero_le _, fun i hi => by simp at hi, fun q i o _ _ => ⟨fun h => by omega, fun h => by simp at h⟩, RT.init htr, fun p q hpq hq => ?_, fun p i o x mk hp => by omega⟩
    have h1 : p = 0 := by omega
    have h2 : q = 0 := by omega
    rw [h1, h2]; exact Nat.le_refl _
  have A : Aft C drawOK w0 μ h.next s cs rd b ⟨(tr 0).2.1.tmps, (tr 0).2.1.defers, (tr 0).2.1.pan⟩ (tr 0).2.2 μ t d cs w := by
    rw [t0]; exact Aft.refl S
  rcases hend with ⟨rfl, rfl⟩ | ⟨ip, op, v, hv, e1, e2, e3, e4, e5, rfl⟩
  · have htr' : ∀ p e, (planOf ops.toList)[p]? = some e → PStep C self rd ops.toList (tr p) (tr (p + 1)) e := fun p e h => htr p e (List.getElem?_eq_some_iff.1 h).1 h
    have PO : PlanOK C self rd ops.toList (planOf ops.toList) tr ps := ⟨p0, hps, htr', plan_own, pe⟩
    obtain ⟨P, hF, I', A'⟩ := advance PO _ 0 (Nat.le_refl _) (inv _ htr') A
    exact any_order hOk hS hgo PO hall (by rw [t0]) S.H.pos (schedule_order h1 _ x) hF I' A'
  · have hNl := (List.getElem?_eq_some_iff.1 e1).1
    have hlt : ∀ {p : Nat} {e : PE}, ((planOf ops.toList).take N)[p]? = some e → p < N ∧ (planOf ops.toList)[p]? = some e := fun {p e} h => by
      have hp : p < N := by have := (List.getElem?_eq_some_iff.1 h).1; simp at this; omega
      rw [List.getElem?_take_of_lt hp] at h
      exact ⟨hp, h⟩
    have htr' : ∀ p e, ((planOf ops.toList).take N)[p]? = some e → PStep C self rd ops.toList (tr p) (tr (p + 1)) e := fun p e h => htr p e (hlt h).1 (hlt h).2
    have hlen : ((planOf ops.toList).take N).length = N := by simp; omega
    have PO : PlanOK C self rd ops.toList ((planOf ops.toList).take N) tr ps := ⟨p0, fun p e h => hps p e (hlt h).2, htr', fun x hx => plan_own x (List.mem_of_mem_take hx), by
      rw [hlen]; exact ((hps N _ e1).ex ip op rfl).1⟩
    obtain ⟨P, hF, I', A'⟩ := advance PO _ 0 (Nat.le_refl _) (inv _ htr') A
    exact any_panic hOk hS hgo PO p0 hps plan_own hall e1 e2 e3 e4 e5 (by rw [t0]) S.H.pos (schedule_order h1 _ x) (by simp) hF I' A'

theorem run_ok {C : Ctx} {w0 : World} (hOk : C.Ok drawOK w0) (n : Nat) : SelfOK C drawOK w0 (run C n) := run_sound hOk (fun _ => draw_sound hOk) n
end Go.Am

/- The abstract machine, part 32: the evaluator without fuel, and its equation. -/
namespace Go.Am
open Go

def Self.le (S S' : Self) : Prop := ∀ rd k s h r, S rd k s h = some r → S' rd k s h = some r

/-- what a computation that asks an evaluator needs -/
structure Cont {β : Type} (C : Ctx) (R : Self) (Φ : Self → Option β) : Prop where
  mono : ∀ S S', Self.le S S' → ∀ b, Φ S = some b → Φ S' = some b
  near : ∀ b, Φ R = some b → ∃ n, ∀ m, n ≤ m → Φ (run C m) = some b

section
variable {C : Ctx} {R : Self}

theorem Cont.const {β : Type} (o : Option β) : Cont C R (fun _ => o) := ⟨fun _ _ _ _ h => h, fun _ h => ⟨0, fun _ _ => h⟩⟩

theorem Cont.bind {α β : Type} {Φ : Self → Option α} {Ψ : Self → α → Option β} (h : Cont C R Φ) (h' : ∀ a, Cont C R (fun S => Ψ S a)) : Cont C R (fun S => obind (Φ S) (Ψ S)) := by
  constructor
  · intro S S' hl b hb
    obtain ⟨a, ha, h1⟩ := obind_eq hb
    rw [h.mono S S' hl a ha]
    exact (h' a).mono S S' hl b h1
  · intro b hb
    obtain ⟨a, ha, h1⟩ := obind_eq hb
    obtain ⟨n, hn⟩ := h.near a ha
    obtain ⟨m, hm⟩ := (h' a).near b h1
    refine ⟨max n m, fun q hq => ?_⟩
    show obind (Φ (run C q)) _ = _
    rw [hn q (by omega)]
    exact hm q (by omega)

theorem Cont.guard {β : Type} {Φ : Self → Option β} (b : Bool) (h : Cont C R Φ) : Cont C R (fun S => guardB b (Φ S)) := by
  cases b
  · exact .const none
  · exact h
end

section
variable {C : Ctx} {R : Self} (hR : ∀ rd k s h, Cont C R (fun S => S rd k s h))
include hR

theorem cont_bodyOf (fn : Func) (args : List Value) (pan : Option Value) (h : Heap) : Cont C R (fun S => bodyOf S fn args pan h) :=
  .bind (.const _) fun _ => hR _ _ _ _
theorem cont_callPlain (f : FuncId) (args : List Value) (h : Heap) (pan : Option Value) : Cont C R (fun S => callPlain C S f args h pan) :=
  .bind (.const _) fun _ => .bind (cont_bodyOf hR _ _ _ _) fun _ => .guard _ (.const _)
theorem cont_runDefer1 (d : Deferred) (m : Option Value) (h : Heap) : Cont C R (fun S => runDefer1 C S d m h) := by
  obtain ⟨t, a⟩ := d
  cases t with
  | collected b => exact .const _
  | fn f cap =>
    cases f <;> try exact .const _
    rename_i g
    show Cont C R (fun S => match C.A g with | some _ => none | none => obind (callPlain C S g (a.toList ++ cap.toList) h m) retOf)
    cases C.A g
    · exact .bind (cont_callPlain hR _ _ _ _) fun _ => .const _
    · exact .const _
  | _ => exact .const _
theorem cont_runDefers (ds : List Deferred) : ∀ (m : Option Value) (h : Heap), Cont C R (fun S => runDefers C S ds m h) := by
  induction ds with
  | nil => intro m h; exact .const _
  | cons d ds ih => intro m h; exact .bind (cont_runDefer1 hR d m h) fun q => ih q.1 q.2
theorem cont_callBody (fn : Func) (args : List Value) (h : Heap) : Cont C R (fun S => callBody C S fn args h) :=
  .bind (cont_bodyOf hR _ _ _ _) fun _ => .bind (.const _) fun _ => .bind (cont_runDefers hR _ _ _) fun _ => .const _
theorem cont_callF (f : FuncId) (args : List Value) (h : Heap) : Cont C R (fun S => callF C S f args h) := by
  unfold callF
  cases C.A f
  · exact .bind (.const _) fun _ => cont_callBody hR _ _ _
  · exact .const _
theorem cont_callM (recv : Value) (name : String) (args : List Value) (h : Heap) : Cont C R (fun S => callM C S recv name args h) := by
  cases recv <;> first | exact .const _ | exact .bind (.const _) fun _ => cont_callF hR _ _ _
theorem cont_yieldTo (l : Nat) (args : List Value) (h : Heap) : Cont C R (fun S => yieldTo S l args h) :=
  .bind (.const _) fun _ => .guard _ (.bind (hR _ _ _ _) fun _ => .const _)
theorem cont_applyFn (fn : Fn) (cap args : List Value) (h : Heap) : Cont C R (fun S => applyFn C S fn cap args h) := by
  cases fn with
  | func f => exact cont_callF hR _ _ _
  | method n =>
    cases args with
    | nil => exact .const _
    | cons a l => exact cont_callM hR _ _ _ _
  | yield l => exact cont_yieldTo hR _ _ _
  | _ => exact .const _
theorem cont_callVal (dst : Option Tmp) (args : List Value) (s : FrS) (h : Heap) (v : Value) : Cont C R (fun S => callVal C S dst args s h v) := by
  cases v <;> first | exact .const _ | exact .bind (cont_applyFn hR _ _ _ _) fun _ => .const _
theorem cont_callOp (rd : Option Nat) (dst : Option Tmp) (c : Call) (s : FrS) (h : Heap) : Cont C R (fun S => callOp C S rd dst c s h) := by
  obtain ⟨cal, args, ats⟩ := c
  cases cal with
  | value f => exact cont_callVal hR _ _ _ _ _
  | invoke r name => exact .bind (cont_callM hR _ _ _ _) fun _ => .const _
  | builtin b => exact .const _
theorem cont_effOp (rd : Option Nat) (dst : Option Tmp) (s : FrS) (h : Heap) (op : Op) : Cont C R (fun S => effOp C S rd dst s h op) := by
  cases op <;> first | exact .const _ | exact cont_callOp hR _ _ _ _ _
theorem cont_doOp (rd : Option Nat) (o : Oper) (s : FrS) (h : Heap) : Cont C R (fun S => doOp C S rd o s h) := by
  unfold doOp
  cases isEff o.op
  · exact .const _
  · exact cont_effOp hR _ _ _ _ _
theorem cont_runOps (rd : Option Nat) (ops : List Oper) (l : List Oper) : ∀ s h, Cont C R (fun S => runOps C S rd ops l s h) := by
  induction l with
  | nil => intro s h; exact .const _
  | cons o l ih =>
    intro s h
    show Cont C R (fun S => runOp C S rd ops o (runOps C S rd ops l) s h)
    unfold runOp
    cases wantedA ops o s.tmps
    · exact ih _ _
    · refine .bind (cont_doOp hR _ _ _ _) fun r => ?_
      cases r with
      | ok s h => exact ih s h
      | panic v s h => exact .const _
theorem cont_runPlan (rd : Option Nat) (ops : List Oper) (l : List PE) : ∀ rs s h, Cont C R (fun S => runPlan C S rd ops l rs s h) := by
  induction l with
  | nil => intro rs s h; exact .const _
  | cons e l ih =>
    intro rs s h
    show Cont C R (fun S => exPE C S rd ops (runPlan C S rd ops l) rs s h e)
    cases e with
    | re i o => exact .guard _ (ih _ _ _)
    | ex i o =>
      simp only [exPE]
      cases wantedA ops o s.tmps
      · exact ih _ _ _
      · unfold exOp
        have key : ∀ rs r, Cont C R (fun S => thenPlan (runPlan C S rd ops l) rs r) := fun rs r => by
          cases r with
          | ok s h => exact ih rs s h
          | panic v s h => exact .const _
        cases isEff o.op
        · exact .bind (.const _) fun e => .bind (.const _) fun r => key _ r
        · exact .bind (cont_effOp hR _ _ _ _ _) fun r => key _ r
theorem cont_after (rd : Option Nat) (k : List Item) (r : ORes) : Cont C R (fun S => afterOps S rd k r) := by
  cases r with
  | ok s h => exact hR _ _ _ _
  | panic v s h => exact .const _
theorem cont_endLoop (rd : Option Nat) (k : List Item) (s : FrS) (l : Nat) (m : List Deferred) (h : Heap) : Cont C R (fun S => endLoopA S rd k s l m h) :=
  .bind (.const _) fun _ => .guard _ (hR _ _ _ _)
theorem cont_range (rd : Option Nat) (params : List Tmp) (assign body : Code) (k : List Item) (s : FrS) (h : Heap) (v : Value) : Cont C R (fun S => stRange C S rd params assign body k s h v) := by
  cases v <;> try exact .const _
  refine .bind (.const _) fun q => .bind (cont_applyFn hR _ _ _ _) fun r => ?_
  cases r with
  | ret v h p => exact cont_endLoop hR _ _ _ _ _ _
  | panic v h => exact .const _
theorem cont_step (rd : Option Nat) (k : List Item) (s : FrS) (h : Heap) : Cont C R (fun S => step C S rd k s h) := by
  cases k with
  | nil => exact .const _
  | cons it k =>
    show Cont C R (fun S => stItem C S rd k s h it)
    cases it with
    | code c =>
      show Cont C R (fun S => stCode C S rd k s h c)
      cases c <;> try first | exact .const _ | exact hR _ _ _ _
      case cond c t e =>
        show Cont C R (fun S => stCond S rd t e k s h (ev s.tmps c))
        generalize ev s.tmps c = v
        unfold stCond
        split <;> first | exact hR _ _ _ _ | exact .const _
      case exit id =>
        show Cont C R (fun S => stExit S rd id s h (exitTo id k))
        cases exitTo id k
        · exact .const _
        · exact hR _ _ _ _
      case region id ops draw =>
        cases draw
        · exact .bind (cont_runOps hR _ _ _ _ _) fun r => cont_after hR _ _ r
        · exact .bind (cont_runPlan hR _ _ _ _ _ _) fun r => cont_after hR _ _ r
      case rangeFunc f params assign body => exact cont_range hR _ _ _ _ _ _ _ _
    | beginRound => exact .bind (.const _) fun _ => .bind (.const _) fun _ => .guard _ (hR _ _ _ _)
    | inBlock _ => exact hR _ _ _ _
    | inScope _ => exact hR _ _ _ _
    | inLoop _ => exact hR _ _ _ _
    | _ => exact .const _
end

theorem run_succ (C : Ctx) (n : Nat) : run C (n + 1) = step C (run C n) := rfl

/-- more fuel says more -/
theorem run_le_succ (C : Ctx) : ∀ n, Self.le (run C n) (run C (n + 1))
  | 0 => fun rd k s h r hr => by simp [run, nrec_zero] at hr
  | n + 1 => fun rd k s h r hr => by
    rw [run_succ] at hr ⊢
    have hc : Cont C (fun _ _ _ _ => none) (fun S => step C S rd k s h) := cont_step (fun rd k s h => ⟨fun S S' hl b hb => hl _ _ _ _ _ hb, fun b hb => by simp at hb⟩) rd k s h
    exact hc.mono _ _ (run_le_succ C n) r hr

theorem run_le (C : Ctx) {n m : Nat} (h : n ≤ m) : Self.le (run C n) (run C m) := by
  induction h with
  | refl => exact fun _ _ _ _ _ a => a
  | step _ ih => exact fun rd k s h r hr => run_le_succ C _ rd k s h r (ih rd k s h r hr)

open Classical in
/-- the evaluator with as much fuel as it needs -/
noncomputable def Lim (C : Ctx) : Self := fun rd k s h => if hx : ∃ r n, run C n rd k s h = some r then some hx.choose else none

theorem Lim_of {C : Ctx} {n : Nat} {rd : Option Nat} {k : List Item} {s : FrS} {h : Heap} {r : FEnd × FrS × Heap} (hr : run C n rd k s h = some r) : Lim C rd k s h = some r := by
  have hx : ∃ r n, run C n rd k s h = some r := ⟨r, n, hr⟩
  unfold Lim
  rw [dif_pos hx]
  obtain ⟨m, hm⟩ := hx.choose_spec
  have h1 := run_le C (Nat.le_max_left n m) _ _ _ _ _ hr
  have h2 := run_le C (Nat.le_max_right n m) _ _ _ _ _ hm
  rw [h1] at h2
  simpa using h2.symm

theorem Lim_to {C : Ctx} {rd : Option Nat} {k : List Item} {s : FrS} {h : Heap} {r : FEnd × FrS × Heap} (hr : Lim C rd k s h = some r) : ∃ n, run C n rd k s h = some r := by
  unfold Lim at hr
  split at hr
  · rename_i hx
    obtain ⟨m, hm⟩ := hx.choose_spec
    simp at hr
    rw [hr] at hm
    exact ⟨m, hm⟩
  · simp at hr

theorem Lim_ge {C : Ctx} (n : Nat) : Self.le (run C n) (Lim C) := fun _ _ _ _ _ h => Lim_of h

theorem Lim_cont (C : Ctx) (rd : Option Nat) (k : List Item) (s : FrS) (h : Heap) : Cont C (Lim C) (fun S => S rd k s h) :=
  ⟨fun _ _ hl _ hb => hl _ _ _ _ _ hb, fun b hb => by
    obtain ⟨n, hn⟩ := Lim_to hb
    exact ⟨n, fun m hm => run_le C hm _ _ _ _ _ hn⟩⟩

/-- the equation -/
theorem Lim_eq (C : Ctx) (rd : Option Nat) (k : List Item) (s : FrS) (h : Heap) : Lim C rd k s h = step C (Lim C) rd k s h := by
  have hc := cont_step (Lim_cont C) rd k s h
  cases hs : step C (Lim C) rd k s h with
  | some r =>
    obtain ⟨n, hn⟩ := hc.near r hs
    exact Lim_of (n := n + 1) (hn n (Nat.le_refl _))
  | none =>
    cases hl : Lim C rd k s h with
    | none => rfl
    | some r =>
      obtain ⟨n, hn⟩ := Lim_to hl
      cases n with
      | zero => simp [run, nrec_zero] at hn
      | succ n =>
        rw [run_succ] at hn
        have := hc.mono _ _ (Lim_ge n) r hn
        rw [hs] at this; simp at this

/-- a call that comes out needs only so much fuel -/
theorem callF_near {C : Ctx} {f : FuncId} {args : List Value} {h : Heap} {r : FRes} (hr : callF C (Lim C) f args h = some r) : ∃ n, callF C (run C n) f args h = some r :=
  let ⟨n, hn⟩ := (cont_callF (Lim_cont C) f args h).near r hr
  ⟨n, hn n (Nat.le_refl _)⟩

end Go.Am
