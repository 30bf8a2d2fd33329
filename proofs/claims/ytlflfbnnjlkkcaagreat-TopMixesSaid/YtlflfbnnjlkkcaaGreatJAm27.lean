/- Parts Am27, Am28, Am29, Am30 of the abstract machine over this program, joined: what each part says stands at its head. -/
import Derived.Test.YtlflfbnnjlkkcaaGreatJAm23
set_option linter.unusedSimpArgs false
set_option linter.unusedVariables false
/- The abstract machine, part 27: temporaries along a plan, and along any order. -/
namespace Go.Am
open Go

theorem tin_putA (τ : List (List Value)) (dst : Option Tmp) (v : Value) (u : Nat) : tin (putA τ dst v) u ↔ tin τ u := by
  cases dst with
  | none => exact Iff.rfl
  | some d => exact tin_tset τ d u v

theorem tget_putA_ne (τ : List (List Value)) {dst : Option Tmp} {u : Nat} (h : dst ≠ some u) (v : Value) : tget (putA τ dst v) u = tget τ u := by
  cases dst with
  | none => rfl
  | some d => exact tget_tset_ne τ (fun e => h (by rw [e])) v

theorem tget_out {τ : List (List Value)} {t : Nat} (h : ¬ tin τ t) : tget τ t = undef := by
  unfold tin at h
  rw [tget_eq, List.getD_eq_getElem?_getD, List.getElem?_eq_none (by omega)]
  rfl

/-- the value that an operation of the plan puts -/
def StepPuts (a b : PSt) (dst : Option Tmp) (v : Value) : Prop := b.2.1.tmps = putA a.2.1.tmps dst v

theorem step_puts {C : Ctx} {self : Self} {rd : Option Nat} {ops : List Oper} {a b : PSt} {i : Nat} {o : Oper} (h : PStep C self rd ops a b (.ex i o)) : ∃ v, StepPuts a b o.dst v := by
  rcases h with ⟨_, rfl⟩ | ⟨_, _, _, h⟩ | ⟨_, _, e, _, h, _⟩
  · exact ⟨undef, by simp [StepPuts, put_eq']⟩
  · obtain ⟨v, D, p, h1, _⟩ := eff_local (τ := a.2.1.tmps) (τ' := a.2.1.tmps) (D := a.2.1.defers) (p := a.2.1.pan) (fun _ _ => rfl) _ _ h
    exact ⟨v, by simp [StepPuts, h1]⟩
  · cases e with
    | val v =>
      simp [putEV] at h
      exact ⟨v, by simp [StepPuts, ← h.1, put_eq']⟩
    | new x mk =>
      obtain ⟨_, h⟩ := guardB_eq h
      simp at h
      exact ⟨mk a.2.2.next, by simp [StepPuts, ← h.1, put_eq']⟩

section
variable {C : Ctx} {self : Self} {rd : Option Nat} {ops : List Oper} {pl : List PE} {tr : Nat → PSt} (htr : ∀ p e, pl[p]? = some e → PStep C self rd ops (tr p) (tr (p + 1)) e)
include htr

/-- between positions without writers a temporary stays -/
theorem stays {t : Tmp} {a : Nat} : ∀ {b : Nat}, a ≤ b → b ≤ pl.length → (∀ p i o, a ≤ p → p < b → pl[p]? = some (.ex i o) → o.dst ≠ some t) → tget (tr b).2.1.tmps t = tget (tr a).2.1.tmps t ∧ (tin (tr b).2.1.tmps t ↔ tin (tr a).2.1.tmps t)
  | b, hab, hb, hw => by
    by_cases he : a = b
    · subst he; exact ⟨rfl, Iff.rfl⟩
    · obtain ⟨b, rfl⟩ : ∃ c, b = c + 1 := ⟨b - 1, by omega⟩
      obtain ⟨i1, i2⟩ := stays (t := t) (a := a) (b := b) (by omega) (by omega) (fun p i o h1 h2 => hw p i o h1 (by omega))
      have hlt : b < pl.length := by omega
      have hx := List.getElem?_eq_getElem hlt
      cases hc : pl[b] with
      | re i o =>
        rw [hc] at hx
        obtain ⟨h1, _⟩ := htr b _ hx
        rw [h1]; exact ⟨i1, i2⟩
      | ex i o =>
        rw [hc] at hx
        obtain ⟨v, hv⟩ := step_puts (htr b _ hx)
        have hv : (tr (b + 1)).2.1.tmps = putA (tr b).2.1.tmps o.dst v := hv
        rw [hv]
        exact ⟨(tget_putA_ne _ (hw b i o (by omega) (by omega) hx) v).trans i1, (tin_putA _ _ _ _).trans i2⟩
termination_by b => b

theorem tin_all {t : Tmp} : ∀ {b : Nat}, b ≤ pl.length → (tin (tr b).2.1.tmps t ↔ tin (tr 0).2.1.tmps t)
  | 0, _ => Iff.rfl
  | b + 1, hb => by
    have ih := tin_all (t := t) (b := b) (by omega)
    have hlt : b < pl.length := by omega
    have hx := List.getElem?_eq_getElem hlt
    cases hc : pl[b] with
    | re i o =>
      rw [hc] at hx
      obtain ⟨h1, _⟩ := htr b _ hx
      rw [h1]; exact ih
    | ex i o =>
      rw [hc] at hx
      obtain ⟨v, hv⟩ := step_puts (htr b _ hx)
      have hv : (tr (b + 1)).2.1.tmps = putA (tr b).2.1.tmps o.dst v := hv
      rw [hv]
      exact (tin_putA _ _ _ _).trans ih
end
end Go.Am

/- The abstract machine, part 28: what an early operation read still holds, until it is done. -/
namespace Go.Am
open Go

/-- a new object comes from an operation that the rechecks watch -/
theorem new_bound {C : Ctx} {ρ : Operand → Value} {h : Heap} {op : Op} {x : AObj} {mk : Nat → Value} (he : earlyVal C ρ h op = some (.new x mk)) : heapBound op = true := by
  cases hb : heapBound op with
  | true => rfl
  | false =>
    exfalso
    cases op <;> simp [heapBound] at hb <;> simp only [earlyVal] at he <;> first
      | (simp at he; done)
      | (obtain ⟨a, _, h1⟩ := obind_eq he; simp [asVal] at h1; done)
      | (simp [asVal] at he; done)
      | (unfold aPick at he; split at he <;> simp [asVal] at he; done)
      | (obtain ⟨a, _, h1⟩ := obind_eq he; obtain ⟨_, h2⟩ := guardB_eq h1; simp [asVal] at h2; done)
      | (obtain ⟨a, _, h1⟩ := obind_eq he; obtain ⟨_, _, h2⟩ := obind_eq h1; obtain ⟨_, h3⟩ := guardB_eq h2; simp [asVal] at h3; done)
      | (obtain ⟨a, _, h1⟩ := obind_eq he; obtain ⟨_, _, h2⟩ := obind_eq h1; obtain ⟨_, _, h3⟩ := obind_eq h2; simp [asVal] at h3; done)
      | (obtain ⟨a, _, h1⟩ := obind_eq he; obtain ⟨_, _, h2⟩ := obind_eq h1; simp [asVal] at h2; done)
      | (obtain ⟨_, h1⟩ := guardB_eq he; simp [asVal] at h1; done)
      | (unfold aNilCheck nilFn nilIface1 at he; repeat' split at he
         all_goals first | (simp [asVal] at he; done) | (obtain ⟨_, h1⟩ := guardB_eq he; simp [asVal] at h1; done) | (obtain ⟨_, _, h1⟩ := obind_eq he; obtain ⟨_, h2⟩ := guardB_eq h1; simp [asVal] at h2; done) | (obtain ⟨_, _, h1⟩ := obind_eq he; simp [asVal] at h1; done))

/-- what an early operation found still holds in a later heap -/
def Holds (C : Ctx) (a : PSt) (op : Op) (h : Heap) : EV → Prop
  | .val v => earlyVal C (ev a.2.1.tmps) h op = some (.val v)
  | .new x _ => h.get a.2.2.next = some x

theorem findRec_cons (i : Nat) (r : Rec) (l : List Rec) : findRec i (r :: l) = (match Nat.beq r.idx i with | true => some r | false => findRec i l) := rfl
theorem recEV_idx (i : Nat) (τ : List (List Value)) (h : Heap) (e : EV) : (recEV i τ h e).idx = i := by cases e <;> rfl

theorem putEV_heap {dst : Option Tmp} {s s' : FrS} {h h' : Heap} {e : EV} (hp : putEV dst s h e = some (.ok s' h')) : HLe h h' ∧ s'.defers = s.defers ∧ s'.pan = s.pan ∧ h.next ≤ h'.next ∧
    (∀ v, e = .val v → h' = h) ∧ ∀ x mk, e = .new x mk → h' = h.alloc x ∧ freshAt (h.get h.next) = true := by
  cases e with
  | val v =>
    simp [putEV] at hp
    obtain ⟨rfl, rfl⟩ := hp
    refine ⟨HLe.refl _, ?_, ?_, Nat.le_refl _, fun _ _ => rfl, fun x mk e => by simp at e⟩ <;> cases dst <;> rfl
  | new x mk =>
    obtain ⟨h1, h2⟩ := guardB_eq hp
    simp at h2
    obtain ⟨rfl, rfl⟩ := h2
    refine ⟨HLe.alloc h1 x, ?_, ?_, by simp, fun v e => by simp at e, fun x' mk' e => ?_⟩
    · cases dst <;> rfl
    · cases dst <;> rfl
    · simp at e; obtain ⟨rfl, _⟩ := e; exact ⟨rfl, h1⟩

section
variable {C : Ctx} {self : Self} {rd : Option Nat} {ops : List Oper} {pl : List PE} {tr : Nat → PSt} {ps : Nat → PsSt}
  (h0 : ps 0 = (0, [], [])) (hps : ∀ p e, pl[p]? = some e → PassAt ops e (ps p) (ps (p + 1)))
  (htr : ∀ p e, pl[p]? = some e → PStep C self rd ops (tr p) (tr (p + 1)) e)
  (hown : ∀ x ∈ pl, (∀ i o, x = .ex i o → ops[i]? = some o) ∧ ∀ i o, x = .re i o → ops[i]? = some o)
include h0 hps htr

/-- an early operation that the plan does -/
structure Did (C : Ctx) (ops : List Oper) (pl : List PE) (tr : Nat → PSt) (p i : Nat) (o : Oper) (e : EV) : Prop where
  at' : pl[p]? = some (.ex i o)
  early : isEff o.op = false
  want : wantedA ops o (tr p).2.1.tmps = true
  ev' : earlyVal C (ev (tr p).2.1.tmps) (tr p).2.2 o.op = some e

omit h0 hps in
theorem Did.step {p i : Nat} {o : Oper} {e : EV} (D : Did C ops pl tr p i o e) : putEV o.dst (tr p).2.1 (tr p).2.2 e = some (.ok (tr (p + 1)).2.1 (tr (p + 1)).2.2) ∧ (tr (p + 1)).1 = recEV i (tr p).2.1.tmps (tr p).2.2 e :: (tr p).1 := by
  rcases htr p _ D.at' with ⟨h1, _⟩ | ⟨_, h1, _⟩ | ⟨_, _, e', h1, h2, h3⟩
  · rw [D.want] at h1; simp at h1
  · rw [D.early] at h1; simp at h1
  · rw [D.ev'] at h1; simp at h1; subst h1
    exact ⟨h2, h3⟩

theorem rec_at {p i : Nat} {o : Oper} {e : EV} (D : Did C ops pl tr p i o e) : ∀ P, p < P → P ≤ pl.length → findRec i (tr P).1 = some (recEV i (tr p).2.1.tmps (tr p).2.2 e)
  | 0, h, _ => by omega
  | P + 1, h, hP => by
    by_cases hp : p = P
    · subst hp
      rw [(D.step htr).2, findRec_cons, recEV_idx, Nat.beq_refl]
    · have ih := rec_at D P (by omega) (by omega)
      have hlt : P < pl.length := by omega
      have hx := List.getElem?_eq_getElem hlt
      cases hc : pl[P] with
      | re j o' =>
        rw [hc] at hx
        obtain ⟨h1, _⟩ := htr P _ hx
        rw [h1]; exact ih
      | ex j o' =>
        rw [hc] at hx
        rcases htr P _ hx with ⟨_, h1⟩ | ⟨_, _, h1, _⟩ | ⟨_, _, e', _, _, h1⟩
        · rw [h1]; exact ih
        · rw [h1]; exact ih
        · rw [h1, findRec_cons, recEV_idx]
          cases hb : Nat.beq j i with
          | true =>
            have hji := natBeq hb
            subst hji
            exact absurd (ex_unique h0 hps D.at' hx) hp
          | false => exact ih

include hown in
theorem holds_at {p i : Nat} {o : Oper} {e : EV} (D : Did C ops pl tr p i o e) : ∀ P, p < P → P ≤ pl.length → (∀ q j o', q < P → pl[q]? = some (.ex j o') → isEff o'.op = true → ¬ (msk ops j).testBit i = true) → i ∉ (ps P).2.2 → Holds C (tr p) o.op (tr P).2.2 e
  | 0, h, _, _, _ => by omega
  | P + 1, h, hP, hq, hi => by
    have hlt : P < pl.length := by omega
    have hx := List.getElem?_eq_getElem hlt
    by_cases hp : p = P
    · subst hp
      obtain ⟨_, _, _, _, h1, h2⟩ := putEV_heap (D.step htr).1
      cases e with
      | val v => show earlyVal C _ _ _ = _; rw [h1 v rfl]; exact D.ev'
      | new x mk => show (tr (p + 1)).2.2.get _ = _; rw [(h2 x mk rfl).1]; exact Heap.get_alloc_self _ _
    · have hpP : p < P := by omega
      have ih : i ∉ (ps P).2.2 → Holds C (tr p) o.op (tr P).2.2 e := holds_at D P hpP (by omega) (fun q j o' a => hq q j o' (by omega))
      cases hc : pl[P] with
      | re j o' =>
        rw [hc] at hx
        obtain ⟨h1, h2⟩ := htr P _ hx
        have hb := (hps P _ hx).re j o' rfl
        rw [hb] at hi
        rw [h1]
        by_cases hij : i = j
        · subst hij
          have hoo : o' = o := by
            have e1 := (hown _ (List.mem_of_getElem? hx)).2 i o' rfl
            have e2 := (hown _ (List.mem_of_getElem? D.at')).1 i o rfl
            rw [e1] at e2; simpa using e2
          subst hoo
          rw [rec_at h0 hps htr D P hpP (by omega)] at h2
          cases e with
          | val v =>
            have h2 : sameEV v (earlyVal C (ev (tr p).2.1.tmps) (tr P).2.2 o'.op) = true := h2
            unfold sameEV at h2
            split at h2
            · rename_i v' hv'
              show earlyVal C _ _ _ = _
              rw [hv', sameV_eq h2]
            · simp at h2
          | new x mk =>
            have h2 : sameAt x ((tr P).2.2.get (tr p).2.2.next) = true := h2
            unfold sameAt at h2
            split at h2
            · rename_i y hy
              show (tr P).2.2.get _ = _
              rw [hy, sameO_eq h2]
            · simp at h2
        · refine ih fun hm => hi ?_
          refine List.mem_filter.2 ⟨hm, ?_⟩
          cases hbq : Nat.beq i j with
          | true => exact absurd (natBeq hbq) hij
          | false => rfl
      | ex j o' =>
        rw [hc] at hx
        obtain ⟨hnil, _, _, _, hb⟩ := (hps P _ hx).ex j o' rfl
        have ih := ih (by rw [hnil]; simp)
        rcases htr P _ hx with ⟨_, h1⟩ | ⟨_, heff, _, _⟩ | ⟨_, _, e', _, h2, _⟩
        · rw [h1]; exact ih
        · have hm := hq P j o' (by omega) hx heff
          have hmem : (i, o) ∈ (ps P).2.1 := ((done_iff h0 hps P (by omega)).1 i o).2 ⟨p, hpP, D.at'⟩
          have hhb : heapBound o.op = false := by
            cases hh : heapBound o.op with
            | false => rfl
            | true =>
              refine absurd ?_ hi
              rw [hb, heff]
              show i ∈ pendOf (msk ops j) (ps P).2.1
              unfold pendOf
              refine List.mem_map.2 ⟨(i, o), List.mem_filter.2 ⟨hmem, ?_⟩, rfl⟩
              have : (msk ops j).testBit i = false := by simpa using hm
              simp [D.early, hh, this]
          cases e with
          | val v =>
            show earlyVal C _ _ _ = _
            rw [early_pure hhb]; exact ih
          | new x mk =>
            have := new_bound D.ev'
            rw [hhb] at this; simp at this
        · have hle := (putEV_heap h2).1
          cases e with
          | val v => exact early_mono hle ih
          | new x mk => exact hle.2 _ _ ih
end
end Go.Am

/- The abstract machine, part 29: temporaries along any order. -/
namespace Go.Am
open Go

/-- temporaries of a run that has done `pre`, compared to those of the plan -/
def RT (pl : List PE) (tr : Nat → PSt) (pre : List Nat) (τ : List (List Value)) : Prop :=
  (∀ t Q, Q ≤ pl.length → (∀ p i o, pl[p]? = some (.ex i o) → o.dst = some t → (p < Q ↔ i ∈ pre)) → tget τ t = tget (tr Q).2.1.tmps t) ∧ ∀ t, tin τ t ↔ tin (tr 0).2.1.tmps t

section
variable {C : Ctx} {self : Self} {rd : Option Nat} {ops : List Oper} {pl : List PE} {tr : Nat → PSt} {ps : Nat → PsSt}
  (h0 : ps 0 = (0, [], [])) (hps : ∀ p e, pl[p]? = some e → PassAt ops e (ps p) (ps (p + 1)))
  (htr : ∀ p e, pl[p]? = some e → PStep C self rd ops (tr p) (tr (p + 1)) e)

include htr in
theorem RT.init : RT pl tr [] (tr 0).2.1.tmps := by
  refine ⟨fun t Q hQ hw => ?_, fun _ => Iff.rfl⟩
  refine ((stays htr (t := t) (a := 0) (b := Q) (by omega) hQ fun p i o _ h1 h2 hd => ?_).1).symm
  have := (hw p i o h2 hd).1 h1
  simp at this

include h0 hps

include htr in
theorem RT.step {pre : List Nat} {τ : List (List Value)} (R : RT pl tr pre τ) (hc : Closed ops pre) {p i : Nat} {o : Oper} (hp : pl[p]? = some (.ex i o)) (hi : i ∉ pre) {v : Value} (hv : (tr (p + 1)).2.1.tmps = putA (tr p).2.1.tmps o.dst v) :
    RT pl tr (i :: pre) (putA τ o.dst v) := by
  refine ⟨fun t Q hQ hw => ?_, fun t => (tin_putA _ _ _ _).trans (R.2 t)⟩
  have hpl : p < pl.length := (List.getElem?_eq_some_iff.1 hp).1
  by_cases hd : o.dst = some t
  · have hpQ : p < Q := (hw p i o hp hd).2 List.mem_cons_self
    by_cases ht : tin (tr 0).2.1.tmps t
    · have e1 : tget (putA τ o.dst v) t = v := by rw [hd]; exact tget_tset_self ((R.2 t).2 ht) v
      have e2 : tget (tr (p + 1)).2.1.tmps t = v := by
        rw [hv, hd]
        exact tget_tset_self ((tin_all htr (by omega)).2 ht) v
      rw [e1, ← e2]
      refine ((stays htr (t := t) (a := p + 1) (b := Q) (by omega) hQ fun q j o' h1 h2 h3 hd' => ?_).1).symm
      have hj := (hw q j o' h3 hd').1 h2
      rcases List.mem_cons.1 hj with rfl | hj
      · have := ex_unique h0 hps hp h3; omega
      · have := behind h0 hps h3 hp (by omega) (.inr (clash_of hd (by simp [names, hd'])).1)
        exact hi (hc j hj i this)
    · rw [tget_out (fun h => ht ((R.2 t).1 ((tin_putA _ _ _ _).1 h)))]
      exact (tget_out fun h => ht ((tin_all htr hQ).1 h)).symm
  · rw [tget_putA_ne _ hd]
    refine R.1 t Q hQ fun p' i' o' h1 h2 => (hw p' i' o' h1 h2).trans ?_
    rw [List.mem_cons]
    constructor
    · rintro (rfl | h)
      · have := ex_unique h0 hps hp h1
        subst this
        rw [hp] at h1; simp at h1
        rw [h1] at hd
        exact absurd h2 hd
      · exact h
    · exact .inr

theorem RT.read {pre : List Nat} {τ : List (List Value)} (R : RT pl tr pre τ) (hc : Closed ops pre) {p i : Nat} {o : Oper} (hp : pl[p]? = some (.ex i o)) (hi : i ∉ pre) (hm : ∀ j, (msk ops i).testBit j = true → j ∈ pre) {t : Tmp} (ht : t ∈ names ops o) :
    tget τ t = tget (tr p).2.1.tmps t := by
  have hpl : p < pl.length := (List.getElem?_eq_some_iff.1 hp).1
  refine R.1 t p (by omega) fun p' i' o' h1 h2 => ?_
  constructor
  · intro hlt
    exact hm i' (behind h0 hps hp h1 hlt (.inr (clash_of h2 ht).1))
  · intro hpre
    rcases Nat.lt_or_ge p' p with h | h
    · exact h
    · rcases Nat.eq_or_lt_of_le h with e | h
      · subst e
        rw [hp] at h1; simp at h1
        rw [h1.1] at hi; exact absurd hpre hi
      · exact absurd (hc i' hpre i (behind h0 hps h1 hp h (.inr (clash_of h2 ht).2))) hi

/-- the operation behind a part of the plan reads what that part left -/
theorem RT.readN {N : Nat} {tr : Nat → PSt} {pre : List Nat} {τ : List (List Value)} (R : RT (pl.take N) tr pre τ) {i : Nat} {o : Oper} (hp : pl[N]? = some (.ex i o)) (hm : ∀ j, (msk ops i).testBit j = true → j ∈ pre) {t : Tmp} (ht : t ∈ names ops o) :
    tget τ t = tget (tr N).2.1.tmps t := by
  have hpl : N < pl.length := (List.getElem?_eq_some_iff.1 hp).1
  refine R.1 t N (by simp; omega) fun p' i' o' h1 h2 => ?_
  have hp' : p' < N := by have := (List.getElem?_eq_some_iff.1 h1).1; simp at this; omega
  rw [List.getElem?_take_of_lt hp'] at h1
  exact ⟨fun _ => hm i' (behind h0 hps hp h1 hp' (.inr (clash_of h2 ht).1)), fun _ => hp'⟩

omit h0 hps in
theorem mem_tmpsIn {l : List Operand} {t : Tmp} (h : Operand.tmp t ∈ l) : t ∈ tmpsIn l := by
  induction l with
  | nil => simp at h
  | cons x l ih =>
    rcases List.mem_cons.1 h with hx | h
    · subst hx; show t ∈ t :: tmpsIn l; exact List.mem_cons_self
    · have := ih h
      cases x with
      | tmp u => show t ∈ u :: tmpsIn l; exact List.mem_cons_of_mem _ this
      | const v => exact this
      | global g => exact this
      | func f => exact this

omit h0 hps in
theorem evs_of {τ τ' : List (List Value)} {o : Oper} (hr : ∀ t ∈ names ops o, tget τ t = tget τ' t) : (∀ x ∈ o.op.operands.toList, ev τ x = ev τ' x) ∧ wantedA ops o τ = wantedA ops o τ' := by
  constructor
  · intro x hx
    cases x with
    | tmp t => exact hr t (by simp [names, looks, mem_tmpsIn hx])
    | const v => rfl
    | global g => rfl
    | func f => rfl
  · unfold wantedA
    cases hg : o.guard with
    | none => rfl
    | some q =>
      simp only
      unfold wantedBy
      cases hl : lget ops q.1 with
      | none => rfl
      | some g =>
        simp only [obind_some]
        cases hd : g.dst with
        | none => rfl
        | some t =>
          simp only
          rw [hr t (by simp [names, looks, guardTmp, hg, hl, hd])]

theorem RT.evs {pre : List Nat} {τ : List (List Value)} (R : RT pl tr pre τ) (hc : Closed ops pre) {p i : Nat} {o : Oper} (hp : pl[p]? = some (.ex i o)) (hi : i ∉ pre) (hm : ∀ j, (msk ops i).testBit j = true → j ∈ pre) :
    (∀ x ∈ o.op.operands.toList, ev τ x = ev (tr p).2.1.tmps x) ∧ wantedA ops o τ = wantedA ops o (tr p).2.1.tmps := by
  constructor
  · intro x hx
    cases x with
    | tmp t => exact R.read h0 hps hc hp hi hm (by simp [names, looks, mem_tmpsIn hx])
    | const v => rfl
    | global g => rfl
    | func f => rfl
  · unfold wantedA
    cases hg : o.guard with
    | none => rfl
    | some q =>
      simp only
      unfold wantedBy
      cases hl : lget ops q.1 with
      | none => rfl
      | some g =>
        simp only [obind_some]
        cases hd : g.dst with
        | none => rfl
        | some t =>
          simp only
          rw [R.read h0 hps hc hp hi hm (t := t) (by simp [names, looks, guardTmp, hg, hl, hd])]
end

theorem TRel.of_same {μ : Mu} {τ τ' : List (List Value)} {T : Array Value} (h : TRel μ τ T) (h1 : ∀ t, tget τ t = tget τ' t) (h2 : ∀ t, tin τ t ↔ tin τ' t) : TRel μ τ' T := by
  intro t
  rw [← h1 t]
  exact ⟨(h t).1, (h2 t).symm.trans (h t).2⟩
end Go.Am

/- The abstract machine, part 30: any order of a region comes to what its plan comes to. -/
namespace Go.Am
open Go

structure PlanOK (C : Ctx) (me : Self) (rd : Option Nat) (ops : List Oper) (pl : List PE) (tr : Nat → PSt) (ps : Nat → PsSt) : Prop where
  h0 : ps 0 = (0, [], [])
  hps : ∀ p e, pl[p]? = some e → PassAt ops e (ps p) (ps (p + 1))
  htr : ∀ p e, pl[p]? = some e → PStep C me rd ops (tr p) (tr (p + 1)) e
  own : ∀ x ∈ pl, (∀ i o, x = .ex i o → ops[i]? = some o) ∧ ∀ i o, x = .re i o → ops[i]? = some o
  endp : (ps pl.length).2.2 = []

/-- an effect, or the end, comes next in the plan -/
def Front (pl : List PE) (P : Nat) : Prop := P = pl.length ∨ ∃ i o, pl[P]? = some (.ex i o) ∧ isEff o.op = true

structure RInv (C : Ctx) (ops : List Oper) (pl : List PE) (tr : Nat → PSt) (pre : List Nat) (P : Nat) (τ : List (List Value)) (μ : Mu) : Prop where
  lt : P ≤ pl.length
  closed : Closed ops pre
  effs : ∀ q i o, pl[q]? = some (.ex i o) → isEff o.op = true → (q < P ↔ i ∈ pre)
  rt : RT pl tr pre τ
  mono : ∀ p q, p ≤ q → q ≤ P → (tr p).2.2.next ≤ (tr q).2.2.next
  pend : ∀ p i o x mk, p < P → Did C ops pl tr p i o (.new x mk) → i ∉ pre → μ (tr p).2.2.next = none

section
variable {C : Ctx} {gd : List Oper → Bool} {w0 : World} {self : Self} {rd : Option Nat} {ops : List Oper} {pl : List PE} {tr : Nat → PSt} {ps : Nat → PsSt} (PO : PlanOK C self rd ops pl tr ps)
include PO

theorem PlanOK.own_at {p i : Nat} {o : Oper} (h : pl[p]? = some (.ex i o)) : ops[i]? = some o := (PO.own _ (List.mem_of_getElem? h)).1 i o rfl

omit PO in
theorem pos_in (h0 : ps 0 = (0, [], [])) (hps : ∀ p e, pl[p]? = some e → PassAt ops e (ps p) (ps (p + 1))) (own : ∀ x ∈ pl, (∀ i o, x = .ex i o → ops[i]? = some o) ∧ ∀ i o, x = .re i o → ops[i]? = some o)
    (all : ∀ i, i < ops.length → (ps pl.length).1.testBit i = true) {i : Nat} {o : Oper} (h : ops[i]? = some o) : ∃ p : Nat, pl[p]? = some (PE.ex i o) := by
  have hi := (List.getElem?_eq_some_iff.1 h).1
  obtain ⟨a1, a2⟩ := done_iff h0 hps pl.length (Nat.le_refl _)
  obtain ⟨o', ho⟩ := (a2 i).1 (all i hi)
  obtain ⟨p, _, hp⟩ := (a1 i o').1 ho
  have := (own _ (List.mem_of_getElem? hp)).1 i o' rfl
  rw [h] at this; simp at this
  exact ⟨p, by rw [this]; exact hp⟩

theorem PlanOK.ends {P : Nat} (h : Front pl P) : (ps P).2.2 = [] := by
  rcases h with rfl | ⟨i, o, h1, _⟩
  · exact PO.endp
  · exact ((PO.hps P _ h1).ex i o rfl).1

theorem PlanOK.new_next {p i : Nat} {o : Oper} {x : AObj} {mk : Nat → Value} (D : Did C ops pl tr p i o (.new x mk)) : (tr (p + 1)).2.2.next = (tr p).2.2.next + 1 := by
  have := (putEV_heap (D.step PO.htr).1).2.2.2.2.2 x mk rfl
  rw [this.1]; simp

variable {μ0 : Mu} {n0 : Nat} {s0 : FrS} {cs0 : List Frame} {b : Frame}

/-- the plan moves on over early operations and rechecks -/
theorem advance {pre : List Nat} {τ : List (List Value)} {μ : Mu} {t : Array Value} {d : List Deferred} {cs : List Frame} {w : World} : ∀ (n P1 : Nat), pl.length - P1 ≤ n → RInv C ops pl tr pre P1 τ μ →
    Aft C gd w0 μ0 n0 s0 cs0 rd b ⟨τ, (tr P1).2.1.defers, (tr P1).2.1.pan⟩ (tr P1).2.2 μ t d cs w →
    ∃ P, Front pl P ∧ RInv C ops pl tr pre P τ μ ∧ Aft C gd w0 μ0 n0 s0 cs0 rd b ⟨τ, (tr P).2.1.defers, (tr P).2.1.pan⟩ (tr P).2.2 μ t d cs w := by
  intro n
  induction n with
  | zero => intro P1 hn I A; exact ⟨P1, .inl (by have := I.lt; omega), I, A⟩
  | succ n ih =>
    intro P1 hn I A
    by_cases hP : P1 = pl.length
    · exact ⟨P1, .inl hP, I, A⟩
    have hlt : P1 < pl.length := by have := I.lt; omega
    have hx := List.getElem?_eq_getElem hlt
    have goOn : (∀ i o, pl[P1]? = some (.ex i o) → isEff o.op = false) → (tr (P1 + 1)).2.1.defers = (tr P1).2.1.defers → (tr (P1 + 1)).2.1.pan = (tr P1).2.1.pan → ((tr (P1 + 1)).2.2 = (tr P1).2.2 ∨ ∃ x, (tr (P1 + 1)).2.2 = (tr P1).2.2.alloc x) →
        ∃ P, Front pl P ∧ RInv C ops pl tr pre P τ μ ∧ Aft C gd w0 μ0 n0 s0 cs0 rd b ⟨τ, (tr P).2.1.defers, (tr P).2.1.pan⟩ (tr P).2.2 μ t d cs w := by
      intro hne hd hp hh
      have hnx : (tr P1).2.2.next ≤ (tr (P1 + 1)).2.2.next := by
        rcases hh with hh | ⟨x, hh⟩ <;> rw [hh] <;> simp
      refine ih (P1 + 1) (by omega) ⟨by omega, I.closed, ?_, I.rt, ?_, ?_⟩ ?_
      · intro q i o hq he
        rw [← I.effs q i o hq he]
        constructor
        · intro h
          rcases Nat.lt_or_ge q P1 with h' | h'
          · exact h'
          · have : q = P1 := by omega
            subst this
            rw [hne i o hq] at he; simp at he
        · omega
      · intro p q hpq hq
        rcases Nat.lt_or_ge q (P1 + 1) with h | h
        · exact I.mono p q hpq (by omega)
        · have : q = P1 + 1 := by omega
          subst this
          rcases Nat.lt_or_ge p (P1 + 1) with h' | h'
          · exact Nat.le_trans (I.mono p P1 (by omega) (Nat.le_refl _)) hnx
          · have : p = P1 + 1 := by omega
            subst this; exact Nat.le_refl _
      · intro p i o x mk hp' D hi
        rcases Nat.lt_or_ge p P1 with h | h
        · exact I.pend p i o x mk h D hi
        · have : p = P1 := by omega
          subst this
          exact A.st.H.fresh
      · rw [hd, hp]
        have H' : HRel (goodP C gd) w0 μ (tr (P1 + 1)).2.2 w := by
          rcases hh with hh | ⟨x, hh⟩ <;> rw [hh]
          · exact A.st.H
          · exact A.st.H.allocA x
        exact ⟨A.le, A.fresh, Nat.le_trans A.nx hnx, ⟨H', A.st.T, A.st.D, A.st.R, A.st.N, A.st.G⟩, A.pan⟩
    cases hc : pl[P1] with
    | re i o =>
      rw [hc] at hx
      obtain ⟨h1, _⟩ := PO.htr P1 _ hx
      refine goOn (fun i' o' h => by rw [hx] at h; simp at h) (by rw [h1]) (by rw [h1]) (.inl (by rw [h1]))
    | ex i o =>
      rw [hc] at hx
      cases heff : isEff o.op with
      | true => exact ⟨P1, .inr ⟨i, o, hx, heff⟩, I, A⟩
      | false =>
        have hne : ∀ i' o', pl[P1]? = some (.ex i' o') → isEff o'.op = false := fun i' o' h => by rw [hx] at h; simp at h; rw [← h.2]; exact heff
        rcases PO.htr P1 _ hx with ⟨_, h1⟩ | ⟨_, h1, _⟩ | ⟨_, _, e, _, h2, _⟩
        · refine goOn hne (by rw [h1]; exact put_defers _ _ _) (by rw [h1]; exact put_pan _ _ _) (.inl (by rw [h1]))
        · rw [heff] at h1; simp at h1
        · obtain ⟨_, a1, a2, _, a3, a4⟩ := putEV_heap h2
          refine goOn hne a1 a2 ?_
          cases e with
          | val v => exact .inl (a3 v rfl)
          | new x mk => exact .inr ⟨x, (a4 x mk rfl).1⟩

theorem RInv.early_lt {pre : List Nat} {P : Nat} {τ : List (List Value)} {μ : Mu} (I : RInv C ops pl tr pre P τ μ) (hF : Front pl P) {p i : Nat} {o : Oper} (hp : pl[p]? = some (.ex i o)) (he : isEff o.op = false) (hm : ∀ j, (msk ops i).testBit j = true → j ∈ pre) : p < P := by
  have hpl := (List.getElem?_eq_some_iff.1 hp).1
  rcases hF with rfl | ⟨j, o', h1, h2⟩
  · exact hpl
  · rcases Nat.lt_or_ge p P with h | h
    · exact h
    · rcases Nat.eq_or_lt_of_le h with e | h
      · subst e; rw [hp] at h1; simp at h1; rw [h1.2, h2] at he; simp at he
      · have := (I.effs P j o' h1 h2).2 (hm j (behind PO.h0 PO.hps hp h1 h (.inl h2)))
        omega

theorem RInv.eff_eq {pre : List Nat} {P : Nat} {τ : List (List Value)} {μ : Mu} (I : RInv C ops pl tr pre P τ μ) (hF : Front pl P) {p i : Nat} {o : Oper} (hp : pl[p]? = some (.ex i o)) (he : isEff o.op = true) (hi : i ∉ pre) (hm : ∀ j, (msk ops i).testBit j = true → j ∈ pre) : p = P := by
  have hpl := (List.getElem?_eq_some_iff.1 hp).1
  have hge : ¬ p < P := fun h => hi ((I.effs p i o hp he).1 h)
  rcases hF with rfl | ⟨j, o', h1, h2⟩
  · omega
  · rcases Nat.lt_or_ge P p with h | h
    · have := (I.effs P j o' h1 h2).2 (hm j (behind PO.h0 PO.hps hp h1 h (.inl h2)))
      omega
    · omega

/-- an early operation is done -/
theorem RInv.early {pre : List Nat} {P : Nat} {τ : List (List Value)} {μ μ' : Mu} (I : RInv C ops pl tr pre P τ μ) {p i : Nat} {o : Oper} (hp : pl[p]? = some (.ex i o)) (he : isEff o.op = false) (hi : i ∉ pre) (hm : ∀ j, (msk ops i).testBit j = true → j ∈ pre) {v : Value}
    (hv : (tr (p + 1)).2.1.tmps = putA (tr p).2.1.tmps o.dst v) (hμ : ∀ p' i' o' x mk, p' < P → Did C ops pl tr p' i' o' (.new x mk) → i' ∉ i :: pre → μ' (tr p').2.2.next = none) : RInv C ops pl tr (i :: pre) P (putA τ o.dst v) μ' := by
  refine ⟨I.lt, I.closed.cons hm, fun q j o' hq heq => ?_, I.rt.step PO.h0 PO.hps PO.htr I.closed hp hi hv, I.mono, hμ⟩
  rw [I.effs q j o' hq heq, List.mem_cons]
  constructor
  · exact .inr
  · rintro (rfl | h)
    · have e1 := PO.own_at hq
      have e2 := PO.own_at hp
      rw [e1] at e2; simp at e2
      rw [e2, he] at heq; simp at heq
    · exact h

/-- the effect that comes next is done -/
theorem RInv.eff {pre : List Nat} {P : Nat} {τ : List (List Value)} {μ μ' : Mu} (I : RInv C ops pl tr pre P τ μ) {i : Nat} {o : Oper} (hp : pl[P]? = some (.ex i o)) (hi : i ∉ pre) (hm : ∀ j, (msk ops i).testBit j = true → j ∈ pre) {v : Value}
    (hv : (tr (P + 1)).2.1.tmps = putA (tr P).2.1.tmps o.dst v) (he : isEff o.op = true) (hn : (tr P).2.2.next ≤ (tr (P + 1)).2.2.next) (hμ : ∀ j, j < (tr P).2.2.next → μ j = none → μ' j = none) : RInv C ops pl tr (i :: pre) (P + 1) (putA τ o.dst v) μ' := by
  have hpl := (List.getElem?_eq_some_iff.1 hp).1
  refine ⟨by omega, I.closed.cons hm, fun q j o' hq heq => ?_, I.rt.step PO.h0 PO.hps PO.htr I.closed hp hi hv, ?_, ?_⟩
  · rw [List.mem_cons]
    constructor
    · intro h
      rcases Nat.lt_or_ge q P with h' | h'
      · exact .inr ((I.effs q j o' hq heq).1 h')
      · have : q = P := by omega
        subst this
        rw [hp] at hq; simp at hq
        exact .inl hq.1.symm
    · rintro (rfl | h)
      · have := ex_unique PO.h0 PO.hps hp hq; omega
      · have := (I.effs q j o' hq heq).2 h; omega
  · intro p q hpq hq
    rcases Nat.lt_or_ge q (P + 1) with h | h
    · exact I.mono p q hpq (by omega)
    · have : q = P + 1 := by omega
      subst this
      rcases Nat.lt_or_ge p (P + 1) with h' | h'
      · exact Nat.le_trans (I.mono p P (by omega) (Nat.le_refl _)) hn
      · have : p = P + 1 := by omega
        subst this; exact Nat.le_refl _
  · intro p j o' x mk hpP D hj
    rw [List.mem_cons] at hj
    have hpP' : p < P := by
      rcases Nat.lt_or_ge p P with h | h
      · exact h
      · have : p = P := by omega
        subst this
        have := D.at'
        rw [hp] at this; simp at this
        have h2 := D.early
        rw [← this.2, he] at h2; simp at h2
    refine hμ _ ?_ (I.pend p j o' x mk hpP' D fun h => hj (.inr h))
    have h1 := PO.new_next D
    have h2 := I.mono (p + 1) P (by omega) (Nat.le_refl _)
    omega

/-- what an early operation found, when it is done -/
theorem RInv.holds {pre : List Nat} {P : Nat} {τ : List (List Value)} {μ : Mu} (I : RInv C ops pl tr pre P τ μ) (hF : Front pl P) {p i : Nat} {o : Oper} {e : EV} (D : Did C ops pl tr p i o e) (hi : i ∉ pre) (hlt : p < P) : Holds C (tr p) o.op (tr P).2.2 e := by
  refine holds_at PO.h0 PO.hps PO.htr PO.own D P hlt I.lt (fun q j o' hq h1 h2 h3 => ?_) (by rw [PO.ends hF]; simp)
  exact hi (I.closed j ((I.effs q j o' h1 h2).1 hq) i h3)
end
end Go.Am
