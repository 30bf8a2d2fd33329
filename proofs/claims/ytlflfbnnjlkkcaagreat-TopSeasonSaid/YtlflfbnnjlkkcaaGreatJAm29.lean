/- Parts Am29, Am30, Am31 of the abstract machine over this program, joined: what each part says stands at its head. -/
import Derived.Test.YtlflfbnnjlkkcaaGreatJAm24
set_option linter.unusedSimpArgs false
set_option linter.unusedVariables false
set_option linter.defProp false
namespace Go.Am
open Go
def RT (pl : List PE) (tr : Nat → PSt) (pre : List Nat) (τ : List (List Value)) : Prop :=
  (∀ t Q, Q ≤ pl.length → (∀ p i o, pl[p]? = some (.ex i o) → o.dst = some t → (p < Q ↔ i ∈ pre)) → tget τ t = tget (tr Q).2.1.tmps t) ∧ ∀ t, tin τ t ↔ tin (tr 0).2.1.tmps t
section
variable {C : Ctx} {self : Self} {rd : Option Nat} {ops : List Oper} {pl : List PE} {tr : Nat → PSt} {ps : Nat → PsSt}
  (h0 : ps 0 = (0, [], [])) (hps : ∀ p e, pl[p]? = some e → PassAt ops e (ps p) (ps (p + 1)))
  (htr : ∀ p e, pl[p]? = some e → PStep C self rd ops (tr p) (tr (p + 1)) e)
include htr in
theorem RT.init : RT pl tr [] (tr 0).2.1.tmps := by
  refine ⟨fun t Q hQ hw => ?_, fun _ => Iff.rfl⟩
  refine ((stays htr (t := t) (a := 0) (b := Q) (by omega) hQ fun p i o _ h1 h2 hd => ?_).1).symm
  have := (hw p i o h2 hd).1 h1
  simp at this
include h0 hps
include htr in
theorem RT.step {pre : List Nat} {τ : List (List Value)} (R : RT pl tr pre τ) (hc : Closed ops pre) {p i : Nat} {o : Oper} (hp : pl[p]? = some (.ex i o)) (hi : i ∉ pre) {v : Value} (hv : (tr (p + 1)).2.1.tmps = putA (tr p).2.1.tmps o.dst v) :
    RT pl tr (i :: pre) (putA τ o.dst v) := by
  refine ⟨fun t Q hQ hw => ?_, fun t => (tin_putA _ _ _ _).trans (R.2 t)⟩
  have hpl : p < pl.length := (List.getElem?_eq_some_iff.1 hp).1
  by_cases hd : o.dst = some t
  · have hpQ : p < Q := (hw p i o hp hd).2 List.mem_cons_self
    by_cases ht : tin (tr 0).2.1.tmps t
    · have e1 : tget (putA τ o.dst v) t = v := by rw [hd]; exact tget_tset_self ((R.2 t).2 ht) v
      have e2 : tget (tr (p + 1)).2.1.tmps t = v := by
        rw [hv, hd]
        exact tget_tset_self ((tin_all htr (by omega)).2 ht) v
      rw [e1, ← e2]
      refine ((stays htr (t := t) (a := p + 1) (b := Q) (by omega) hQ fun q j o' h1 h2 h3 hd' => ?_).1).symm
      have hj := (hw q j o' h3 hd').1 h2
      rcases List.mem_cons.1 hj with rfl | hj
      · have := ex_unique h0 hps hp h3; omega
      · have := behind h0 hps h3 hp (by omega) (.inr (clash_of hd (by simp [names, hd'])).1)
        exact hi (hc j hj i this)
    · rw [tget_out (fun h => ht ((R.2 t).1 ((tin_putA _ _ _ _).1 h)))]
      exact (tget_out fun h => ht ((tin_all htr hQ).1 h)).symm
  · rw [tget_putA_ne _ hd]
    refine R.1 t Q hQ fun p' i' o' h1 h2 => (hw p' i' o' h1 h2).trans ?_
    rw [List.mem_cons]
    constructor
    · rintro (rfl | h)
      · have := ex_unique h0 hps hp h1
        subst this
        rw [hp] at h1; simp at h1
        rw [h1] at hd
        exact absurd h2 hd
      · exact h
    · exact .inr
theorem RT.read {pre : List Nat} {τ : List (List Value)} (R : RT pl tr pre τ) (hc : Closed ops pre) {p i : Nat} {o : Oper} (hp : pl[p]? = some (.ex i o)) (hi : i ∉ pre) (hm : ∀ j, (msk ops i).testBit j = true → j ∈ pre) {t : Tmp} (ht : t ∈ names ops o) :
    tget τ t = tget (tr p).2.1.tmps t := by
  have hpl : p < pl.length := (List.getElem?_eq_some_iff.1 hp).1
  refine R.1 t p (by omega) fun p' i' o' h1 h2 => ?_
  constructor
  · intro hlt
    exact hm i' (behind h0 hps hp h1 hlt (.inr (clash_of h2 ht).1))
  · intro hpre
    rcases Nat.lt_or_ge p' p with h | h
    · exact h
    · rcases Nat.eq_or_lt_of_le h with e | h
      · subst e
        rw [hp] at h1; simp at h1
        rw [h1.1] at hi; exact absurd hpre hi
      · exact absurd (hc i' hpre i (behind h0 hps h1 hp h (.inr (clash_of h2 ht).2))) hi
theorem RT.readN {N : Nat} {tr : Nat → PSt} {pre : List Nat} {τ : List (List Value)} (R : RT (pl.take N) tr pre τ) {i : Nat} {o : Oper} (hp : pl[N]? = some (.ex i o)) (hm : ∀ j, (msk ops i).testBit j = true → j ∈ pre) {t : Tmp} (ht : t ∈ names ops o) :
    tget τ t = tget (tr N).2.1.tmps t := by
  have hpl : N < pl.length := (List.getElem?_eq_some_iff.1 hp).1
  refine R.1 t N (by simp; omega) fun p' i' o' h1 h2 => ?_
  have hp' : p' < N := by have := (List.getElem?_eq_some_iff.1 h1).1; simp at this; omega
  rw [List.getElem?_take_of_lt hp'] at h1
  exact ⟨fun _ => hm i' (behind h0 hps hp h1 hp' (.inr (clash_of h2 ht).1)), fun _ => hp'⟩
omit h0 hps in
theorem mem_tmpsIn {l : List Operand} {t : Tmp} (h : Operand.tmp t ∈ l) : t ∈ tmpsIn l := by
  induction l with
  | nil => simp at h
  | cons x l ih =>
    rcases List.mem_cons.1 h with hx | h
    · subst hx; show t ∈ t :: tmpsIn l; exact List.mem_cons_self
    · have := ih h
      cases x with
      | tmp u => show t ∈ u :: tmpsIn l; exact List.mem_cons_of_mem _ this
      | const v => exact this
      | global g => exact this
      | func f => exact this
omit h0 hps in
theorem evs_of {τ τ' : List (List Value)} {o : Oper} (hr : ∀ t ∈ names ops o, tget τ t = tget τ' t) : (∀ x ∈ o.op.operands.toList, ev τ x = ev τ' x) ∧ wantedA ops o τ = wantedA ops o τ' := by
  constructor
  · intro x hx
    cases x with
    | tmp t => exact hr t (by simp [names, looks, mem_tmpsIn hx])
    | const v => rfl
    | global g => rfl
    | func f => rfl
  · unfold wantedA
    cases hg : o.guard with
    | none => rfl
    | some q =>
      simp only
      unfold wantedBy
      cases hl : lget ops q.1 with
      | none => rfl
      | some g =>
        simp only [obind_some]
        cases hd : g.dst with
        | none => rfl
        | some t =>
          simp only
          rw [hr t (by simp [names, looks, guardTmp, hg, hl, hd])]
theorem RT.evs {pre : List Nat} {τ : List (List Value)} (R : RT pl tr pre τ) (hc : Closed ops pre) {p i : Nat} {o : Oper} (hp : pl[p]? = some (.ex i o)) (hi : i ∉ pre) (hm : ∀ j, (msk ops i).testBit j = true → j ∈ pre) :
    (∀ x ∈ o.op.operands.toList, ev τ x = ev (tr p).2.1.tmps x) ∧ wantedA ops o τ = wantedA ops o (tr p).2.1.tmps := by
  constructor
  · intro x hx
    cases x with
    | tmp t => exact R.read h0 hps hc hp hi hm (by simp [names, looks, mem_tmpsIn hx])
    | const v => rfl
    | global g => rfl
    | func f => rfl
  · unfold wantedA
    cases hg : o.guard with
    | none => rfl
    | some q =>
      simp only
      unfold wantedBy
      cases hl : lget ops q.1 with
      | none => rfl
      | some g =>
        simp only [obind_some]
        cases hd : g.dst with
        | none => rfl
        | some t =>
          simp only
          rw [R.read h0 hps hc hp hi hm (t := t) (by simp [names, looks, guardTmp, hg, hl, hd])]
end
theorem TRel.of_same {μ : Mu} {τ τ' : List (List Value)} {T : Array Value} (h : TRel μ τ T) (h1 : ∀ t, tget τ t = tget τ' t) (h2 : ∀ t, tin τ t ↔ tin τ' t) : TRel μ τ' T := by
  intro t
  rw [← h1 t]
  exact ⟨(h t).1, (h2 t).symm.trans (h t).2⟩
end Go.Am

namespace Go.Am
open Go
structure PlanOK (C : Ctx) (me : Self) (rd : Option Nat) (ops : List Oper) (pl : List PE) (tr : Nat → PSt) (ps : Nat → PsSt) : Prop where
  h0 : ps 0 = (0, [], [])
  hps : ∀ p e, pl[p]? = some e → PassAt ops e (ps p) (ps (p + 1))
  htr : ∀ p e, pl[p]? = some e → PStep C me rd ops (tr p) (tr (p + 1)) e
  own : ∀ x ∈ pl, (∀ i o, x = .ex i o → ops[i]? = some o) ∧ ∀ i o, x = .re i o → ops[i]? = some o
  endp : (ps pl.length).2.2 = []
def Front (pl : List PE) (P : Nat) : Prop := P = pl.length ∨ ∃ i o, pl[P]? = some (.ex i o) ∧ isEff o.op = true
structure RInv (C : Ctx) (ops : List Oper) (pl : List PE) (tr : Nat → PSt) (pre : List Nat) (P : Nat) (τ : List (List Value)) (μ : Mu) : Prop where
  lt : P ≤ pl.length
  closed : Closed ops pre
  effs : ∀ q i o, pl[q]? = some (.ex i o) → isEff o.op = true → (q < P ↔ i ∈ pre)
  rt : RT pl tr pre τ
  mono : ∀ p q, p ≤ q → q ≤ P → (tr p).2.2.next ≤ (tr q).2.2.next
  pend : ∀ p i o x mk, p < P → Did C ops pl tr p i o (.new x mk) → i ∉ pre → μ (tr p).2.2.next = none
section
variable {C : Ctx} {gd : List Oper → Bool} {w0 : World} {self : Self} {rd : Option Nat} {ops : List Oper} {pl : List PE} {tr : Nat → PSt} {ps : Nat → PsSt} (PO : PlanOK C self rd ops pl tr ps)
include PO
theorem PlanOK.own_at {p i : Nat} {o : Oper} (h : pl[p]? = some (.ex i o)) : ops[i]? = some o := (PO.own _ (List.mem_of_getElem? h)).1 i o rfl
omit PO in
theorem pos_in (h0 : ps 0 = (0, [], [])) (hps : ∀ p e, pl[p]? = some e → PassAt ops e (ps p) (ps (p + 1))) (own : ∀ x ∈ pl, (∀ i o, x = .ex i o → ops[i]? = some o) ∧ ∀ i o, x = .re i o → ops[i]? = some o)
    (all : ∀ i, i < ops.length → (ps pl.length).1.testBit i = true) {i : Nat} {o : Oper} (h : ops[i]? = some o) : ∃ p : Nat, pl[p]? = some (PE.ex i o) := by
  have hi := (List.getElem?_eq_some_iff.1 h).1
  obtain ⟨a1, a2⟩ := done_iff h0 hps pl.length (Nat.le_refl _)
  obtain ⟨o', ho⟩ := (a2 i).1 (all i hi)
  obtain ⟨p, _, hp⟩ := (a1 i o').1 ho
  have := (own _ (List.mem_of_getElem? hp)).1 i o' rfl
  rw [h] at this; simp at this
  exact ⟨p, by rw [this]; exact hp⟩
theorem PlanOK.ends {P : Nat} (h : Front pl P) : (ps P).2.2 = [] := by
  rcases h with rfl | ⟨i, o, h1, _⟩
  · exact PO.endp
  · exact ((PO.hps P _ h1).ex i o rfl).1
theorem PlanOK.new_next {p i : Nat} {o : Oper} {x : AObj} {mk : Nat → Value} (D : Did C ops pl tr p i o (.new x mk)) : (tr (p + 1)).2.2.next = (tr p).2.2.next + 1 := by
  have := (putEV_heap (D.step PO.htr).1).2.2.2.2.2 x mk rfl
  rw [this.1]; simp
variable {μ0 : Mu} {n0 : Nat} {s0 : FrS} {cs0 : List Frame} {b : Frame}
theorem advance {pre : List Nat} {τ : List (List Value)} {μ : Mu} {t : Array Value} {d : List Deferred} {cs : List Frame} {w : World} : ∀ (n P1 : Nat), pl.length - P1 ≤ n → RInv C ops pl tr pre P1 τ μ →
    Aft C gd w0 μ0 n0 s0 cs0 rd b ⟨τ, (tr P1).2.1.defers, (tr P1).2.1.pan⟩ (tr P1).2.2 μ t d cs w →
    ∃ P, Front pl P ∧ RInv C ops pl tr pre P τ μ ∧ Aft C gd w0 μ0 n0 s0 cs0 rd b ⟨τ, (tr P).2.1.defers, (tr P).2.1.pan⟩ (tr P).2.2 μ t d cs w := by
  intro n
  induction n with
  | zero => intro P1 hn I A; exact ⟨P1, .inl (by have := I.lt; omega), I, A⟩
  | succ n ih =>
    intro P1 hn I A
    by_cases hP : P1 = pl.length
    · exact ⟨P1, .inl hP, I, A⟩
    have hlt : P1 < pl.length := by have := I.lt; omega
    have hx := List.getElem?_eq_getElem hlt
    have goOn : (∀ i o, pl[P1]? = some (.ex i o) → isEff o.op = false) → (tr (P1 + 1)).2.1.defers = (tr P1).2.1.defers → (tr (P1 + 1)).2.1.pan = (tr P1).2.1.pan → ((tr (P1 + 1)).2.2 = (tr P1).2.2 ∨ ∃ x, (tr (P1 + 1)).2.2 = (tr P1).2.2.alloc x) →
        ∃ P, Front pl P ∧ RInv C ops pl tr pre P τ μ ∧ Aft C gd w0 μ0 n0 s0 cs0 rd b ⟨τ, (tr P).2.1.defers, (tr P).2.1.pan⟩ (tr P).2.2 μ t d cs w := by
      intro hne hd hp hh
      have hnx : (tr P1).2.2.next ≤ (tr (P1 + 1)).2.2.next := by
        rcases hh with hh | ⟨x, hh⟩ <;> rw [hh] <;> simp
      refine ih (P1 + 1) (by omega) ⟨by omega, I.closed, ?_, I.rt, ?_, ?_⟩ ?_
      · intro q i o hq he
        rw [← I.effs q i o hq he]
        constructor
        · intro h
          rcases Nat.lt_or_ge q P1 with h' | h'
          · exact h'
          · have : q = P1 := by omega
            subst this
            rw [hne i o hq] at he; simp at he
        · omega
      · intro p q hpq hq
        rcases Nat.lt_or_ge q (P1 + 1) with h | h
        · exact I.mono p q hpq (by omega)
        · have : q = P1 + 1 := by omega
          subst this
          rcases Nat.lt_or_ge p (P1 + 1) with h' | h'
          · exact Nat.le_trans (I.mono p P1 (by omega) (Nat.le_refl _)) hnx
          · have : p = P1 + 1 := by omega
            subst this; exact Nat.le_refl _
      · intro p i o x mk hp' D hi
        rcases Nat.lt_or_ge p P1 with h | h
        · exact I.pend p i o x mk h D hi
        · have : p = P1 := by omega
          subst this
          exact A.st.H.fresh
      · rw [hd, hp]
        have H' : HRel (goodP C gd) w0 μ (tr (P1 + 1)).2.2 w := by
          rcases hh with hh | ⟨x, hh⟩ <;> rw [hh]
          · exact A.st.H
          · exact A.st.H.allocA x
        exact ⟨A.le, A.fresh, Nat.le_trans A.nx hnx, ⟨H', A.st.T, A.st.D, A.st.R, A.st.N, A.st.G⟩, A.pan⟩
    cases hc : pl[P1] with
    | re i o =>
      rw [hc] at hx
      obtain ⟨h1, _⟩ := PO.htr P1 _ hx
      refine goOn (fun i' o' h => by rw [hx] at h; simp at h) (by rw [h1]) (by rw [h1]) (.inl (by rw [h1]))
    | ex i o =>
      rw [hc] at hx
      cases heff : isEff o.op with
      | true => exact ⟨P1, .inr ⟨i, o, hx, heff⟩, I, A⟩
      | false =>
        have hne : ∀ i' o', pl[P1]? = some (.ex i' o') → isEff o'.op = false := fun i' o' h => by rw [hx] at h; simp at h; rw [← h.2]; exact heff
        rcases PO.htr P1 _ hx with ⟨_, h1⟩ | ⟨_, h1, _⟩ | ⟨_, _, e, _, h2, _⟩
        · refine goOn hne (by rw [h1]; exact put_defers _ _ _) (by rw [h1]; exact put_pan _ _ _) (.inl (by rw [h1]))
        · rw [heff] at h1; simp at h1
        · obtain ⟨_, a1, a2, _, a3, a4⟩ := putEV_heap h2
          refine goOn hne a1 a2 ?_
          cases e with
          | val v => exact .inl (a3 v rfl)
          | new x mk => exact .inr ⟨x, (a4 x mk rfl).1⟩
theorem RInv.early_lt {pre : List Nat} {P : Nat} {τ : List (List Value)} {μ : Mu} (I : RInv C ops pl tr pre P τ μ) (hF : Front pl P) {p i : Nat} {o : Oper} (hp : pl[p]? = some (.ex i o)) (he : isEff o.op = false) (hm : ∀ j, (msk ops i).testBit j = true → j ∈ pre) : p < P := by
  have hpl := (List.getElem?_eq_some_iff.1 hp).1
  rcases hF with rfl | ⟨j, o', h1, h2⟩
  · exact hpl
  · rcases Nat.lt_or_ge p P with h | h
    · exact h
    · rcases Nat.eq_or_lt_of_le h with e | h
      · subst e; rw [hp] at h1; simp at h1; rw [h1.2, h2] at he; simp at he
      · have := (I.effs P j o' h1 h2).2 (hm j (behind PO.h0 PO.hps hp h1 h (.inl h2)))
        omega
theorem RInv.eff_eq {pre : List Nat} {P : Nat} {τ : List (List Value)} {μ : Mu} (I : RInv C ops pl tr pre P τ μ) (hF : Front pl P) {p i : Nat} {o : Oper} (hp : pl[p]? = some (.ex i o)) (he : isEff o.op = true) (hi : i ∉ pre) (hm : ∀ j, (msk ops i).testBit j = true → j ∈ pre) : p = P := by
  have hpl := (List.getElem?_eq_some_iff.1 hp).1
  have hge : ¬ p < P := fun h => hi ((I.effs p i o hp he).1 h)
  rcases hF with rfl | ⟨j, o', h1, h2⟩
  · omega
  · rcases Nat.lt_or_ge P p with h | h
    · have := (I.effs P j o' h1 h2).2 (hm j (behind PO.h0 PO.hps hp h1 h (.inl h2)))
      omega
    · omega
theorem RInv.early {pre : List Nat} {P : Nat} {τ : List (List Value)} {μ μ' : Mu} (I : RInv C ops pl tr pre P τ μ) {p i : Nat} {o : Oper} (hp : pl[p]? = some (.ex i o)) (he : isEff o.op = false) (hi : i ∉ pre) (hm : ∀ j, (msk ops i).testBit j = true → j ∈ pre) {v : Value}
    (hv : (tr (p + 1)).2.1.tmps = putA (tr p).2.1.tmps o.dst v) (hμ : ∀ p' i' o' x mk, p' < P → Did C ops pl tr p' i' o' (.new x mk) → i' ∉ i :: pre → μ' (tr p').2.2.next = none) : RInv C ops pl tr (i :: pre) P (putA τ o.dst v) μ' := by
  refine ⟨I.lt, I.closed.cons hm, fun q j o' hq heq => ?_, I.rt.step PO.h0 PO.hps PO.htr I.closed hp hi hv, I.mono, hμ⟩
  rw [I.effs q j o' hq heq, List.mem_cons]
  constructor
  · exact .inr
  · rintro (rfl | h)
    · have e1 := PO.own_at hq
      have e2 := PO.own_at hp
      rw [e1] at e2; simp at e2
      rw [e2, he] at heq; simp at heq
    · exact h
theorem RInv.eff {pre : List Nat} {P : Nat} {τ : List (List Value)} {μ μ' : Mu} (I : RInv C ops pl tr pre P τ μ) {i : Nat} {o : Oper} (hp : pl[P]? = some (.ex i o)) (hi : i ∉ pre) (hm : ∀ j, (msk ops i).testBit j = true → j ∈ pre) {v : Value}
    (hv : (tr (P + 1)).2.1.tmps = putA (tr P).2.1.tmps o.dst v) (he : isEff o.op = true) (hn : (tr P).2.2.next ≤ (tr (P + 1)).2.2.next) (hμ : ∀ j, j < (tr P).2.2.next → μ j = none → μ' j = none) : RInv C ops pl tr (i :: pre) (P + 1) (putA τ o.dst v) μ' := by
  have hpl := (List.getElem?_eq_some_iff.1 hp).1
  refine ⟨by omega, I.closed.cons hm, fun q j o' hq heq => ?_, I.rt.step PO.h0 PO.hps PO.htr I.closed hp hi hv, ?_, ?_⟩
  · rw [List.mem_cons]
    constructor
    · intro h
      rcases Nat.lt_or_ge q P with h' | h'
      · exact .inr ((I.effs q j o' hq heq).1 h')
      · have : q = P := by omega
        subst this
        rw [hp] at hq; simp at hq
        exact .inl hq.1.symm
    · rintro (rfl | h)
      · have := ex_unique PO.h0 PO.hps hp hq; omega
      · have := (I.effs q j o' hq heq).2 h; omega
  · intro p q hpq hq
    rcases Nat.lt_or_ge q (P + 1) with h | h
    · exact I.mono p q hpq (by omega)
    · have : q = P + 1 := by omega
      subst this
      rcases Nat.lt_or_ge p (P + 1) with h' | h'
      · exact Nat.le_trans (I.mono p P (by omega) (Nat.le_refl _)) hn
      · have : p = P + 1 := by omega
        subst this; exact Nat.le_refl _
  · intro p j o' x mk hpP D hj
    rw [List.mem_cons] at hj
    have hpP' : p < P := by
      rcases Nat.lt_or_ge p P with h | h
      · exact h
      · have : p = P := by omega
        subst this
        have := D.at'
        rw [hp] at this; simp at this
        have h2 := D.early
        rw [← this.2, he] at h2; simp at h2
    refine hμ _ ?_ (I.pend p j o' x mk hpP' D fun h => hj (.inr h))
    have h1 := PO.new_next D
    have h2 := I.mono (p + 1) P (by omega) (Nat.le_refl _)
    omega
theorem RInv.holds {pre : List Nat} {P : Nat} {τ : List (List Value)} {μ : Mu} (I : RInv C ops pl tr pre P τ μ) (hF : Front pl P) {p i : Nat} {o : Oper} {e : EV} (D : Did C ops pl tr p i o e) (hi : i ∉ pre) (hlt : p < P) : Holds C (tr p) o.op (tr P).2.2 e := by
  refine holds_at PO.h0 PO.hps PO.htr PO.own D P hlt I.lt (fun q j o' hq h1 h2 h3 => ?_) (by rw [PO.ends hF]; simp)
  exact hi (I.closed j ((I.effs q j o' h1 h2).1 hq) i h3)
end
end Go.Am

namespace Go.Am
open Go
section
variable {C : Ctx} {gd : List Oper → Bool} {w0 : World} {self : Self} {rd : Option Nat} {ops : Array Oper} {pl : List PE} {tr : Nat → PSt} {ps : Nat → PsSt}
  {μ0 : Mu} {n0 : Nat} {s0 : FrS} {cs0 : List Frame} {b : Frame} {k : List Item}
theorem one_order (hOk : C.Ok gd w0) (hS : SelfOK C gd w0 self) (hgo : ∀ o ∈ ops.toList, goodOp C o = true) (PO : PlanOK C self rd ops.toList pl tr ps) (hn0 : n0 = (tr 0).2.2.next) (hpos : 0 < n0) {pre L : List Nat} {i : Nat} {o : Oper} (ho : ops[i]? = some o) (hn : i ∉ pre)
    {p : Nat} (hp : pl[p]? = some (.ex i o)) (he : ∀ o, ops[i]? = some o → ∀ e ∈ o.after.toList, Region.binds .any e = true → e.on ∈ pre)
    {P : Nat} {τ : List (List Value)} {μ : Mu} {t : Array Value} {d : List Deferred} {cs : List Frame} {w : World} (hF : Front pl P) (I : RInv C ops.toList pl tr pre P τ μ)
    (A : Aft C gd w0 μ0 n0 s0 cs0 rd b ⟨τ, (tr P).2.1.defers, (tr P).2.1.pan⟩ (tr P).2.2 μ t d cs w) :
    ∃ P2 τ2 μ2 t2 d2 cs2 w2, Front pl P2 ∧ RInv C ops.toList pl tr (i :: pre) P2 τ2 μ2 ∧ Aft C gd w0 μ0 n0 s0 cs0 rd b ⟨τ2, (tr P2).2.1.defers, (tr P2).2.1.pan⟩ (tr P2).2.2 μ2 t2 d2 cs2 w2 ∧
      Steps C.P (lone (frm b t d (.inRegion ops (i :: L) :: k)) cs w) (lone (frm b t2 d2 (.inRegion ops L :: k)) cs2 w2) := by
  have ho' : ops.toList[i]? = some o := by rw [Array.getElem?_toList]; exact ho
  have hpl := (List.getElem?_eq_some_iff.1 hp).1
  have hm : ∀ j, (msk ops.toList i).testBit j = true → j ∈ pre := mask_in I.closed ho' (fun e h1 h2 => he o ho e h1 h2)
  obtain ⟨hev, hwa⟩ := I.rt.evs PO.h0 PO.hps I.closed hp hn hm
  have hwt : wantedA ops.toList o τ = Region.wanted o (yielded ops t) := wanted_eq A.st.T ops o
  have hgoo := hgo o (List.mem_of_getElem? ho')
  have fin : ∀ {P1 : Nat} {τ1 : List (List Value)} {μ1 : Mu} {t1 : Array Value} {d1 : List Deferred} {cs1 : List Frame} {w1 : World}, RInv C ops.toList pl tr (i :: pre) P1 τ1 μ1 →
      Aft C gd w0 μ0 n0 s0 cs0 rd b ⟨τ1, (tr P1).2.1.defers, (tr P1).2.1.pan⟩ (tr P1).2.2 μ1 t1 d1 cs1 w1 →
      Steps C.P (lone (frm b t d (.inRegion ops (i :: L) :: k)) cs w) (lone (frm b t1 d1 (.inRegion ops L :: k)) cs1 w1) →
      ∃ P2 τ2 μ2 t2 d2 cs2 w2, Front pl P2 ∧ RInv C ops.toList pl tr (i :: pre) P2 τ2 μ2 ∧ Aft C gd w0 μ0 n0 s0 cs0 rd b ⟨τ2, (tr P2).2.1.defers, (tr P2).2.1.pan⟩ (tr P2).2.2 μ2 t2 d2 cs2 w2 ∧
        Steps C.P (lone (frm b t d (.inRegion ops (i :: L) :: k)) cs w) (lone (frm b t2 d2 (.inRegion ops L :: k)) cs2 w2) := by
    intro P1 τ1 μ1 t1 d1 cs1 w1 I1 A1 hs
    obtain ⟨P2, hF2, I2, A2⟩ := advance PO (pl.length - P1) P1 (Nat.le_refl _) I1 A1
    exact ⟨P2, _, _, _, _, _, _, hF2, I2, A2, hs⟩
  have pend_keep : ∀ p' i' o' x mk, p' < P → Did C ops.toList pl tr p' i' o' (.new x mk) → i' ∉ i :: pre → μ (tr p').2.2.next = none := fun p' i' o' x mk h1 h2 h3 => I.pend p' i' o' x mk h1 h2 (fun h => h3 (List.mem_cons_of_mem _ h))
  have hstep := PO.htr p _ hp
  have putAft : ∀ {μ' : Mu} {w' : World} {v V : Value}, μ.le μ' → Fresh n0 μ μ' → HRel (goodP C gd) w0 μ' (tr P).2.2 w' → VRel μ' v V →
      Aft C gd w0 μ0 n0 s0 cs0 rd b ⟨putA τ o.dst v, (tr P).2.1.defers, (tr P).2.1.pan⟩ (tr P).2.2 μ' (putT t o.dst V) d cs w' := by
    intro μ' w' v V hle hfr H' hv
    have S := A.st.put hle H' o.dst hv
    rw [put_eq] at S
    exact ⟨A.le.trans hle, Fresh.trans (Nat.le_refl _) A.fresh hfr, A.nx, S, A.pan⟩
  cases hw : Region.wanted o (yielded ops t) with
  | false =>
    rw [hw, hwa] at hwt
    have hb : (tr (p + 1)) = ((tr p).1, (tr p).2.1.put o.dst undef, (tr p).2.2) := by
      rcases hstep with ⟨_, h1⟩ | ⟨h1, _⟩ | ⟨h1, _⟩
      · exact h1
      · rw [hwt] at h1; simp at h1
      · rw [hwt] at h1; simp at h1
    have hv : (tr (p + 1)).2.1.tmps = putA (tr p).2.1.tmps o.dst undef := by rw [hb]; simp [put_eq']
    have A1 := putAft (fun _ _ a => a) (Fresh.refl _ _) A.st.H (undef_rel μ)
    have hs : Steps C.P (lone (frm b t d (.inRegion ops (i :: L) :: k)) cs w) (lone (frm b (putT t o.dst undef) d (.inRegion ops L :: k)) cs w) := .one (st_opSkip ho hw)
    cases heff : isEff o.op with
    | false => exact fin (I.early PO hp heff hn hm hv pend_keep) A1 hs
    | true =>
      have hpP := I.eff_eq PO hF hp heff hn hm
      subst hpP
      refine fin (P1 := p + 1) (I.eff PO hp hn hm hv heff (by rw [hb]; exact Nat.le_refl _) (fun _ _ h => h)) ?_ hs
      have e1 : (tr (p + 1)).2.1.defers = (tr p).2.1.defers := by rw [hb]; exact put_defers _ _ _
      have e2 : (tr (p + 1)).2.1.pan = (tr p).2.1.pan := by rw [hb]; exact put_pan _ _ _
      have e3 : (tr (p + 1)).2.2 = (tr p).2.2 := by rw [hb]
      rw [e1, e2, e3]
      exact A1
  | true =>
    rw [hw, hwa] at hwt
    rcases hstep with ⟨h1, _⟩ | ⟨_, heff, _, hE⟩ | ⟨_, heff, e, he1, he2, he3⟩
    · rw [hwt] at h1; simp at h1
    · -- an effect
      have hpP := I.eff_eq PO hF hp heff hn hm
      subst hpP
      obtain ⟨v, D, q, hq1, hq2⟩ := eff_local (τ := (tr p).2.1.tmps) (τ' := τ) (D := (tr p).2.1.defers) (p := (tr p).2.1.pan) (dst := o.dst) (fun x hx => (hev x hx).symm) _ _ hE
      have hA := eff_sim (k := k) (rest := L) hOk hS A.st ho hw hgoo hq2
      obtain ⟨μ', w', t', d', cs', A', hs⟩ := hA
      have e1 : (tr (p + 1)).2.1.defers = D := by rw [hq1]
      have e2 : (tr (p + 1)).2.1.pan = q := by rw [hq1]
      refine fin (P1 := p + 1) (μ1 := μ') (I.eff PO hp hn hm (by rw [hq1]) heff A'.nx ?_) ?_ hs
      · intro j hj hjn
        cases hx : μ' j with
        | none => rfl
        | some y =>
          rcases A'.fresh j y hx with h | h
          · rw [hjn] at h; simp at h
          · omega
      · rw [e1, e2]
        exact A.trans A'
    · -- an early operation
      have hlt := I.early_lt PO hF hp heff hm
      have Dd : Did C ops.toList pl tr p i o e := ⟨hp, heff, hwt, he1⟩
      have hh := I.holds PO hF Dd hn hlt
      have hρ : ∀ x ∈ o.op.operands.toList, VRel μ (ev (tr p).2.1.tmps x) ((frm b t d (.inRegion ops (i :: L) :: k)).eval x) := fun x hx => by
        rw [← hev x hx]
        exact ev_rel A.st.G A.st.T (List.all_eq_true.1 hgoo x hx)
      have hd : ∀ c, o.op ≠ .defer c := by intro c e'; rw [e'] at he1; simp [earlyVal] at he1
      cases e with
      | val v =>
        have hh : earlyVal C (ev (tr p).2.1.tmps) (tr P).2.2 o.op = some (.val v) := hh
        obtain ⟨V, w', hrun, hq, hv⟩ := early_sim hOk.ok0 A.st.H hρ hh
        simp [putEV] at he2
        refine fin (I.early PO hp heff hn hm (v := v) (by rw [← he2.1]; simp [put_eq']) pend_keep) (putAft (fun _ _ a => a) (Fresh.refl _ _) (A.st.H.quiet hq) hv) (.one (st_value ho hw (.inr hd) hrun))
      | new x mk =>
        have hget : (tr P).2.2.get (tr p).2.2.next = some x := hh
        obtain ⟨V, w', O, lim, esz, hrun, hg, hx⟩ := early_sim hOk.ok0 A.st.H hρ (early_new he1 : earlyVal C (ev (tr p).2.1.tmps) (tr P).2.2 o.op = some (.new x mk))
        have hid : μ (tr p).2.2.next = none := I.pend p i o x mk hlt Dd hn
        have hmono0 := I.mono 0 p (by omega) (by omega)
        have hnn := PO.new_next Dd
        have hmono1 := I.mono (p + 1) P (by omega) (Nat.le_refl _)
        obtain ⟨h1, h2⟩ := hx (tr p).2.2.next hid (by omega)
        obtain ⟨_, he2⟩ := guardB_eq he2
        simp at he2
        refine fin (I.early PO hp heff hn hm (v := mk (tr p).2.2.next) (by rw [← he2.1]; simp [put_eq']) ?_) (putAft (Mu.le_upd _ hid) (Fresh.upd _ _ (by omega)) (A.st.H.grew lim esz hid (by omega) (by omega) hget hg h1) h2) (.one (st_value ho hw (.inr hd) hrun))
        intro p' i' o' x' mk' hp' D' hi'
        have hne : (tr p').2.2.next ≠ (tr p).2.2.next := by
          have hpp : p' ≠ p := by
            rintro rfl
            have := D'.at'
            rw [hp] at this; simp at this
            exact hi' (by rw [this.1]; exact List.mem_cons_self)
          rcases Nat.lt_or_ge p' p with h | h
          · have a1 := PO.new_next D'
            have a2 := I.mono (p' + 1) p (by omega) (by omega)
            omega
          · have a2 := I.mono (p + 1) p' (by omega) (by omega)
            omega
        rw [Mu.upd_ne _ _ hne]
        exact pend_keep p' i' o' x' mk' hp' D' hi'
theorem mask_pre {pre : List Nat} {i : Nat} {o : Oper} (hc : Closed ops.toList pre) (ho : ops[i]? = some o) (he : ∀ o, ops[i]? = some o → ∀ e ∈ o.after.toList, Region.binds .any e = true → e.on ∈ pre) : ∀ j, (msk ops.toList i).testBit j = true → j ∈ pre :=
  mask_in hc (by rw [Array.getElem?_toList]; exact ho) (fun e h1 h2 => he o ho e h1 h2)
theorem any_order (hOk : C.Ok gd w0) (hS : SelfOK C gd w0 self) (hgo : ∀ o ∈ ops.toList, goodOp C o = true) (PO : PlanOK C self rd ops.toList pl tr ps) (all : ∀ i o, ops.toList[i]? = some o → ∃ p : Nat, pl[p]? = some (PE.ex i o)) (hn0 : n0 = (tr 0).2.2.next) (hpos : 0 < n0) {pre L : List Nat} (hO : Order ops pre L) :
    ∀ {P : Nat} {τ : List (List Value)} {μ : Mu} {t : Array Value} {d : List Deferred} {cs : List Frame} {w : World}, Front pl P → RInv C ops.toList pl tr pre P τ μ →
      Aft C gd w0 μ0 n0 s0 cs0 rd b ⟨τ, (tr P).2.1.defers, (tr P).2.1.pan⟩ (tr P).2.2 μ t d cs w →
      ∃ μ' w' t' d' cs', Aft C gd w0 μ0 n0 s0 cs0 rd b (tr pl.length).2.1 (tr pl.length).2.2 μ' t' d' cs' w' ∧ Steps C.P (lone (frm b t d (.inRegion ops L :: k)) cs w) (lone (frm b t' d' k) cs' w') := by
  induction hO with
  | done pre h =>
    intro P τ μ t d cs w hF I A
    have hP : P = pl.length := by
      rcases hF with e | ⟨i, o, h1, h2⟩
      · exact e
      · have hi := (List.getElem?_eq_some_iff.1 (PO.own_at h1)).1
        have := (I.effs P i o h1 h2).2 (h i (by simpa using hi))
        omega
    subst hP
    refine ⟨μ, w, t, d, cs, ⟨A.le, A.fresh, A.nx, ⟨A.st.H, ?_, A.st.D, A.st.R, A.st.N, A.st.G⟩, A.pan⟩, .one st_regionEnd⟩
    refine A.st.T.of_same (fun u => I.rt.1 u pl.length (Nat.le_refl _) fun p i o h1 h2 => ?_) (fun u => (I.rt.2 u).trans (tin_all PO.htr (Nat.le_refl _)).symm)
    have hp := (List.getElem?_eq_some_iff.1 h1).1
    have hi := (List.getElem?_eq_some_iff.1 (PO.own_at h1)).1
    exact ⟨fun _ => h i (by simpa using hi), fun _ => hp⟩
  | next pre i L hi hn he hO ih =>
    intro P τ μ t d cs w hF I A
    have ho : ops[i]? = some ops[i] := Array.getElem?_eq_getElem hi
    obtain ⟨p, hp⟩ := all i _ (by rw [Array.getElem?_toList]; exact ho)
    obtain ⟨P2, τ2, μ2, t2, d2, cs2, w2, hF2, I2, A2, hs⟩ := one_order (k := k) (L := L) hOk hS hgo PO hn0 hpos ho hn hp he hF I A
    obtain ⟨μ', w', t', d', cs', A', hs'⟩ := ih hF2 I2 A2
    exact ⟨μ', w', t', d', cs', A', hs.trans hs'⟩
theorem any_panic (hOk : C.Ok gd w0) (hS : SelfOK C gd w0 self) (hgo : ∀ o ∈ ops.toList, goodOp C o = true) {plF : List PE} {psF : Nat → PsSt} {N ip : Nat} {op : Oper} {v : Value} {hv : Heap} (PO : PlanOK C self rd ops.toList (plF.take N) tr ps)
    (h0F : psF 0 = (0, [], [])) (hpsF : ∀ p e, plF[p]? = some e → PassAt ops.toList e (psF p) (psF (p + 1))) (ownF : ∀ x ∈ plF, (∀ i o, x = .ex i o → ops.toList[i]? = some o) ∧ ∀ i o, x = .re i o → ops.toList[i]? = some o)
    (all : ∀ i o, ops.toList[i]? = some o → ∃ p : Nat, plF[p]? = some (PE.ex i o))
    (hN : plF[N]? = some (.ex ip op)) (heff : isEff op.op = true) (hwant : wantedA ops.toList op (tr N).2.1.tmps = true) (hE : effOp C self rd op.dst (tr N).2.1 (tr N).2.2 op.op = some (.panic v (tr N).2.1 hv)) (hbare : (tr N).2.1.defers = [])
    (hn0 : n0 = (tr 0).2.2.next) (hpos : 0 < n0) {pre L : List Nat} (hO : Order ops pre L) :
    ∀ {P : Nat} {τ : List (List Value)} {μ : Mu} {t : Array Value} {d : List Deferred} {cs : List Frame} {w : World}, ip ∉ pre → Front (plF.take N) P → RInv C ops.toList (plF.take N) tr pre P τ μ →
      Aft C gd w0 μ0 n0 s0 cs0 rd b ⟨τ, (tr P).2.1.defers, (tr P).2.1.pan⟩ (tr P).2.2 μ t d cs w →
      OAt C gd w0 μ0 n0 s0 cs0 rd b (lone (frm b t d (.inRegion ops L :: k)) cs w) k (.panic v (tr N).2.1 hv) := by
  have hNl := (List.getElem?_eq_some_iff.1 hN).1
  have hlen : (plF.take N).length = N := by simp; omega
  have hip : ops[ip]? = some op := by have := (ownF _ (List.mem_of_getElem? hN)).1 ip op rfl; rwa [Array.getElem?_toList] at this
  induction hO with
  | done pre h =>
    intro P τ μ t d cs w hnp _ _ _
    exact absurd (h ip (Array.getElem?_eq_some_iff.1 hip).1) hnp
  | next pre i L hi hn he hO ih =>
    intro P τ μ t d cs w hnp hF I A
    have ho : ops[i]? = some ops[i] := Array.getElem?_eq_getElem hi
    have hm := mask_pre I.closed ho he
    obtain ⟨p, hp⟩ := all i _ (by rw [Array.getElem?_toList]; exact ho)
    rcases Nat.lt_trichotomy p N with hlt | heq | hgt
    · have hp' : (plF.take N)[p]? = some (.ex i ops[i]) := by rw [List.getElem?_take_of_lt hlt]; exact hp
      obtain ⟨P2, τ2, μ2, t2, d2, cs2, w2, hF2, I2, A2, hs⟩ := one_order (k := k) (L := L) hOk hS hgo PO hn0 hpos ho hn hp' he hF I A
      have hne : ip ∉ i :: pre := by
        intro h
        rcases List.mem_cons.1 h with h | h
        · have := ex_unique h0F hpsF hp (h ▸ hN); omega
        · exact hnp h
      have := ih hne hF2 I2 A2
      obtain ⟨s2, μ', w', t', d', cs', nr, A', E⟩ := this
      exact ⟨s2, μ', w', t', d', cs', nr, A', E.of_steps hs⟩
    · subst heq
      rw [hN] at hp
      have hpe : ip = i ∧ op = ops[i] := by simpa using hp
      obtain ⟨rfl, hoe⟩ := hpe
      have hPN : P = p := by
        rcases hF with e | ⟨j, o', h1, h2⟩
        · rw [hlen] at e; exact e
        · have hPlt : P < p := by have := (List.getElem?_eq_some_iff.1 h1).1; omega
          have h1' := h1
          rw [List.getElem?_take_of_lt hPlt] at h1'
          have := (I.effs P j o' h1 h2).2 (hm j (behind h0F hpsF hN h1' hPlt (.inl h2)))
          omega
      subst hPN
      obtain ⟨hev, hwa⟩ := evs_of (ops := ops.toList) (o := op) (τ := τ) (τ' := (tr P).2.1.tmps) fun u hu => I.rt.readN h0F hpsF hN hm hu
      have hwt : wantedA ops.toList op τ = Region.wanted op (yielded ops t) := wanted_eq A.st.T ops op
      rw [hwa, hwant] at hwt
      obtain ⟨es, er⟩ := eff_panic (C := C) (self := self) (rd := rd) (τ := (tr P).2.1.tmps) (τ' := τ) (D := (tr P).2.1.defers) (p := (tr P).2.1.pan) (dst := op.dst) (h := (tr P).2.2) (op := op.op) (fun x hx => (hev x hx).symm) _ _ _ hE
      have hgoo := hgo op (List.mem_of_getElem? (by rw [Array.getElem?_toList]; exact hip))
      have hA := eff_sim (k := k) (rest := L) hOk hS A.st hip hwt.symm hgoo er
      obtain ⟨s2, μ', w', t', d', cs', nr, A', E⟩ := hA
      refine ⟨s2, μ', w', t', d', cs', ?_, A.trans A', E⟩
      rcases nr with e | ⟨v', e, e1, e2, e3⟩
      · exact .inr ⟨v, rfl, hbare, by rw [e]; exact hbare, by rw [e]⟩
      · exact .inr ⟨v, rfl, hbare, e2, e3⟩
    · exact absurd (hm ip (behind h0F hpsF hp hN hgt (.inl heff))) hnp
end
theorem draw_sound {C : Ctx} {w0 : World} {self : Self} (hOk : C.Ok drawOK w0) (hS : SelfOK C drawOK w0 self) : DrawOK C drawOK w0 self := by
  intro ops rd s h r hr hgd hgo μ w b cs t d k x S
  obtain ⟨h1, h2⟩ := (Bool.and_eq_true _ _).mp hgd
  obtain ⟨tr, N, t0, htr, hend⟩ := plan_trace _ hr
  obtain ⟨ps, p0, hps, pe, pa⟩ := pass_trace _ h2
  have hall : ∀ i o, ops.toList[i]? = some o → ∃ p : Nat, (planOf ops.toList)[p]? = some (PE.ex i o) := fun i o h => pos_in p0 hps plan_own pa h
  have inv : ∀ pl : List PE, (∀ p e, pl[p]? = some e → PStep C self rd ops.toList (tr p) (tr (p + 1)) e) → RInv C ops.toList pl tr [] 0 (tr 0).2.1.tmps μ := by
    intro pl htr
    refine ⟨Nat.zero_le _, fun i hi => by simp at hi, fun q i o _ _ => ⟨fun h => by omega, fun h => by simp at h⟩, RT.init htr, fun p q hpq hq => ?_, fun p i o x mk hp => by omega⟩
    have h1 : p = 0 := by omega
    have h2 : q = 0 := by omega
    rw [h1, h2]; exact Nat.le_refl _
  have A : Aft C drawOK w0 μ h.next s cs rd b ⟨(tr 0).2.1.tmps, (tr 0).2.1.defers, (tr 0).2.1.pan⟩ (tr 0).2.2 μ t d cs w := by
    rw [t0]; exact Aft.refl S
  rcases hend with ⟨rfl, rfl⟩ | ⟨ip, op, v, hv, e1, e2, e3, e4, e5, rfl⟩
  · have htr' : ∀ p e, (planOf ops.toList)[p]? = some e → PStep C self rd ops.toList (tr p) (tr (p + 1)) e := fun p e h => htr p e (List.getElem?_eq_some_iff.1 h).1 h
    have PO : PlanOK C self rd ops.toList (planOf ops.toList) tr ps := ⟨p0, hps, htr', plan_own, pe⟩
    obtain ⟨P, hF, I', A'⟩ := advance PO _ 0 (Nat.le_refl _) (inv _ htr') A
    exact any_order hOk hS hgo PO hall (by rw [t0]) S.H.pos (schedule_order h1 _ x) hF I' A'
  · have hNl := (List.getElem?_eq_some_iff.1 e1).1
    have hlt : ∀ {p : Nat} {e : PE}, ((planOf ops.toList).take N)[p]? = some e → p < N ∧ (planOf ops.toList)[p]? = some e := fun {p e} h => by
      have hp : p < N := by have := (List.getElem?_eq_some_iff.1 h).1; simp at this; omega
      rw [List.getElem?_take_of_lt hp] at h
      exact ⟨hp, h⟩
    have htr' : ∀ p e, ((planOf ops.toList).take N)[p]? = some e → PStep C self rd ops.toList (tr p) (tr (p + 1)) e := fun p e h => htr p e (hlt h).1 (hlt h).2
    have hlen : ((planOf ops.toList).take N).length = N := by simp; omega
    have PO : PlanOK C self rd ops.toList ((planOf ops.toList).take N) tr ps := ⟨p0, fun p e h => hps p e (hlt h).2, htr', fun x hx => plan_own x (List.mem_of_mem_take hx), by
      rw [hlen]; exact ((hps N _ e1).ex ip op rfl).1⟩
    obtain ⟨P, hF, I', A'⟩ := advance PO _ 0 (Nat.le_refl _) (inv _ htr') A
    exact any_panic hOk hS hgo PO p0 hps plan_own hall e1 e2 e3 e4 e5 (by rw [t0]) S.H.pos (schedule_order h1 _ x) (by simp) hF I' A'
theorem run_ok {C : Ctx} {w0 : World} (hOk : C.Ok drawOK w0) (n : Nat) : SelfOK C drawOK w0 (run C n) := run_sound hOk (fun _ => draw_sound hOk) n
end Go.Am
