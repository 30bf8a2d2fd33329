/- Parts Am24, Am25, Am26, Am27, Am28 of the abstract machine over this program, joined: what each part says stands at its head. -/
import Derived.Test.YtlflfbnnjlkkcaaGreatJAm21
import Derived.Orders
set_option linter.unusedSimpArgs false
set_option linter.unusedVariables false
set_option linter.defProp false
namespace Go.Am
open Go
inductive Order (ops : Array Oper) : List Nat → List Nat → Prop
  | done (pre : List Nat) (h : ∀ i, i < ops.size → i ∈ pre) : Order ops pre []
  | next (pre : List Nat) (i : Nat) (L : List Nat) (hi : i < ops.size) (hn : i ∉ pre) (he : ∀ o, ops[i]? = some o → ∀ e ∈ o.after.toList, Region.binds .any e = true → e.on ∈ pre) (h : Order ops (i :: pre) L) : Order ops pre (i :: L)
structure Wit (md : Region.Mode) (ops : Array Oper) (W : List Nat) : Prop where
  len : W.length ≤ ops.size
  all : ∀ i, i < ops.size → i ∈ W
  edge : ∀ W1 i W2, W = W1 ++ i :: W2 → i < ops.size ∧ ∀ o, ops[i]? = some o → ∀ e ∈ o.after.toList, Region.binds md e = true → e.on ∈ W1
theorem mem_ready {md : Region.Mode} {ops : Array Oper} {listed : Array Bool} {i : Nat} : i ∈ Region.ready md ops listed ↔ i < ops.size ∧ listed.getD i true = false ∧ ∀ o, ops[i]? = some o → ∀ e ∈ o.after.toList, Region.binds md e = true → listed.getD e.on false = true := by
  unfold Region.ready
  rw [List.mem_filter, List.mem_range]
  constructor
  · rintro ⟨h1, h2⟩
    obtain ⟨h3, h4⟩ := (Bool.and_eq_true _ _).mp h2
    refine ⟨h1, by simpa using h3, fun o ho e he hb => ?_⟩
    rw [ho] at h4
    simp only [Option.map_some, Option.getD_some] at h4
    have := (Array.all_eq_true'.1 h4) e (Array.mem_toList_iff.1 he)
    simpa [hb] using this
  · rintro ⟨h1, h2, h3⟩
    refine ⟨h1, ?_⟩
    rw [h2]
    obtain ⟨o, ho⟩ : ∃ o, ops[i]? = some o := ⟨_, Array.getElem?_eq_getElem h1⟩
    rw [ho]
    simp only [Option.map_some, Option.getD_some, Bool.not_false, Bool.true_and]
    refine Array.all_eq_true'.2 fun e he => ?_
    cases hb : Region.binds md e with
    | false => rfl
    | true => simpa using h3 o ho e (Array.mem_toList_iff.2 he) hb
theorem binds_any {md : Region.Mode} {e : Edge} (h : Region.binds .any e = true) : Region.binds md e = true := by
  unfold Region.binds at *
  cases hg : e.ground <;> rw [hg] at h <;> first | rfl | (simp at h)
theorem go_order {md : Region.Mode} {ops : Array Oper} {W : List Nat} (hW : Wit md ops W) : ∀ (fuel t : Nat) (listed : Array Bool) (pre : List Nat), listed.size = ops.size → (∀ j, listed[j]? = some true ↔ j ∈ pre) →
    (W.filter fun j => !pre.contains j).length ≤ fuel → Order ops pre (Region.linearise.go md ops fuel t listed []) := by
  have empty : ∀ pre : List Nat, (W.filter fun j => !pre.contains j) = [] → ∀ i, i < ops.size → i ∈ pre := by
    intro pre h i hi
    have := List.filter_eq_nil_iff.1 h i (hW.all i hi)
    simpa using this
  intro fuel
  induction fuel with
  | zero =>
    intro t listed pre hs hl hf
    exact .done pre (empty pre (List.eq_nil_of_length_eq_zero (Nat.le_zero.1 hf)))
  | succ fuel ih =>
    intro t listed pre hs hl hf
    simp only [Region.linearise.go]
    change Order ops pre (match (Region.ready md ops listed)[t % (Region.ready md ops listed).length]? with
      | some i => Region.linearise.go md ops fuel (t / (Region.ready md ops listed).length) (listed.setIfInBounds i true) [i]
      | none => [].reverse)
    cases hi : (Region.ready md ops listed)[t % (Region.ready md ops listed).length]? with
    | none =>
      have hnil : Region.ready md ops listed = [] := by
        cases hr : Region.ready md ops listed with
        | nil => rfl
        | cons x xs =>
          rw [hr] at hi
          have hlt : t % (x :: xs).length < (x :: xs).length := Nat.mod_lt _ (by simp)
          simp at hi
          simp at hlt
          omega
      refine .done pre (empty pre ?_)
      cases hfil : W.filter (fun j => !pre.contains j) with
      | nil => rfl
      | cons x xs =>
        obtain ⟨W1, W2, e1, e2, e3, _⟩ := List.filter_eq_cons_iff.1 hfil
        obtain ⟨hx, he⟩ := hW.edge W1 x W2 e1
        have hxn : x ∉ pre := by simpa using e3
        have : x ∈ Region.ready md ops listed := by
          refine mem_ready.2 ⟨hx, ?_, fun o ho e hee hb => ?_⟩
          · have hx' : x < listed.size := by omega
            have : listed[x]? ≠ some true := fun q => hxn ((hl x).1 q)
            rw [Array.getD_eq_getD_getElem?]
            rw [Array.getElem?_eq_getElem hx'] at this ⊢
            simpa using this
          · have h1 := he o ho e hee hb
            have h2 := e2 _ h1
            have h3 : e.on ∈ pre := by simpa using h2
            rw [Array.getD_eq_getD_getElem?, (hl _).2 h3]; rfl
        rw [hnil] at this
        simp at this
    | some i =>
      simp only []
      rw [linearise_go_acc, List.reverse_singleton, List.singleton_append]
      obtain ⟨h1, h2, h3⟩ := mem_ready.1 (List.mem_of_getElem? hi)
      have hin : i ∉ pre := by
        intro q
        rw [Array.getD_eq_getD_getElem?, (hl i).2 q] at h2
        simp at h2
      refine .next pre i _ h1 hin (fun o ho e he hb => ?_) (ih _ _ (i :: pre) (by simpa using hs) (fun j => ?_) ?_)
      · have := h3 o ho e he (binds_any hb)
        rw [Array.getD_eq_getD_getElem?] at this
        cases hg : listed[e.on]? with
        | none => rw [hg] at this; simp at this
        | some b => rw [hg] at this; simp at this; subst this; exact (hl _).1 hg
      · rw [Array.getElem?_setIfInBounds]
        by_cases hj : i = j
        · subst hj
          have : i < listed.size := by omega
          simp [this]
        · rw [if_neg hj, hl j]
          simp [show ¬ j = i from fun q => hj q.symm]
      · have e1 : (W.filter fun j => !(i :: pre).contains j) = (W.filter fun j => !pre.contains j).filter (fun j => !(j == i)) := by
          rw [List.filter_filter]
          congr 1
          funext j
          simp only [List.contains_cons, Bool.not_or]
        have e2 : (W.filter fun j => !(i :: pre).contains j).length < (W.filter fun j => !pre.contains j).length := by
          rw [e1]
          refine List.length_filter_lt_length_iff_exists.2 ⟨i, List.mem_filter.2 ⟨hW.all i h1, by simpa using hin⟩, by simp⟩
        omega
theorem linearise_order {md : Region.Mode} {ops : Array Oper} {W : List Nat} (hW : Wit md ops W) (t : Nat) : Order ops [] (Region.linearise md ops t) := by
  refine go_order hW ops.size t _ [] (by simp) (fun j => ?_) ?_
  · simp [Array.getElem?_replicate]
  · exact Nat.le_trans (List.length_filter_le _ _) hW.len
noncomputable def edgesIn (md : Region.Mode) (done : Nat) (o : Oper) : Bool := o.after.toList.all fun e => match Region.binds md e with | true => done.testBit e.on | false => true
noncomputable def wPass (md : Region.Mode) (ops : List Oper) : List Nat → Nat → Bool :=
  lrec (fun done => (List.range ops.length).all fun i => done.testBit i)
    (fun i _ ih done => match lget ops i with
      | some o => edgesIn md done o && ih (done ||| 2 ^ i)
      | none => false)
theorem wPass_cons (md : Region.Mode) (ops : List Oper) (i : Nat) (W : List Nat) (done : Nat) : wPass md ops (i :: W) done = (match lget ops i with | some o => edgesIn md done o && wPass md ops W (done ||| 2 ^ i) | none => false) := rfl
theorem wPass_ok {md : Region.Mode} {ops : Array Oper} : ∀ (W : List Nat) {done : Nat} {pre : List Nat}, wPass md ops.toList W done = true → (∀ j, done.testBit j = true → j ∈ pre) →
    (∀ i, i < ops.size → i ∈ pre ∨ i ∈ W) ∧ ∀ W1 i W2, W = W1 ++ i :: W2 → i < ops.size ∧ ∀ o, ops[i]? = some o → ∀ e ∈ o.after.toList, Region.binds md e = true → e.on ∈ pre ∨ e.on ∈ W1
  | [], done, pre, h, hd => by
    have h : ((List.range ops.toList.length).all fun i => done.testBit i) = true := h
    refine ⟨fun i hi => .inl (hd i (List.all_eq_true.1 h i (List.mem_range.2 (by simpa using hi)))), fun W1 i W2 e => ?_⟩
    simp at e
  | x :: W, done, pre, h, hd => by
    rw [wPass_cons, lget_eq, Array.getElem?_toList] at h
    cases ho : ops[x]? with
    | none => rw [ho] at h; simp at h
    | some o =>
      rw [ho] at h
      obtain ⟨h1, h2⟩ := (Bool.and_eq_true _ _).mp h
      have hx : x < ops.size := (Array.getElem?_eq_some_iff.1 ho).1
      obtain ⟨a1, a2⟩ := wPass_ok W (pre := x :: pre) h2 (fun j hj => by
        rw [Nat.testBit_or, Nat.testBit_two_pow] at hj
        rcases (Bool.or_eq_true _ _).mp hj with q | q
        · exact List.mem_cons_of_mem _ (hd j q)
        · have : x = j := by simpa using q
          subst this; exact List.mem_cons_self)
      refine ⟨fun i hi => ?_, fun W1 i W2 e => ?_⟩
      · rcases a1 i hi with q | q
        · rcases List.mem_cons.1 q with rfl | q
          · exact .inr List.mem_cons_self
          · exact .inl q
        · exact .inr (List.mem_cons_of_mem _ q)
      · cases W1 with
        | nil =>
          simp at e
          obtain ⟨rfl, rfl⟩ := e
          refine ⟨hx, fun o' ho' ed hed hb => ?_⟩
          rw [ho] at ho'; simp at ho'; subst ho'
          have := List.all_eq_true.1 h1 ed hed
          rw [hb] at this
          exact .inl (hd _ this)
        | cons y W1 =>
          simp at e
          obtain ⟨rfl, e⟩ := e
          obtain ⟨b1, b2⟩ := a2 W1 i W2 e
          refine ⟨b1, fun o' ho' ed hed hb => ?_⟩
          rcases b2 o' ho' ed hed hb with q | q
          · rcases List.mem_cons.1 q with q | q
            · exact .inr (by rw [q]; exact List.mem_cons_self)
            · exact .inl q
          · exact .inr (List.mem_cons_of_mem _ q)
noncomputable def witOK (md : Region.Mode) (ops : List Oper) (W : List Nat) : Bool := Nat.ble W.length ops.length && wPass md ops W 0
theorem witOK_ok {md : Region.Mode} {ops : Array Oper} {W : List Nat} (h : witOK md ops.toList W = true) : Wit md ops W := by
  obtain ⟨h1, h2⟩ := (Bool.and_eq_true _ _).mp h
  obtain ⟨a1, a2⟩ := wPass_ok W (pre := []) h2 (fun j hj => by simp at hj)
  refine ⟨by simpa using Nat.le_of_ble_eq_true h1, fun i hi => by simpa using a1 i hi, fun W1 i W2 e => ?_⟩
  obtain ⟨b1, b2⟩ := a2 W1 i W2 e
  exact ⟨b1, fun o ho ed hed hb => by simpa using b2 o ho ed hed hb⟩
noncomputable def firstReady (md : Region.Mode) (l : List (Oper × Nat)) (done : Nat) : Option Nat :=
  lrec none (fun p _ ih => match done.testBit p.2 with | true => ih | false => match edgesIn md done p.1 with | true => some p.2 | false => ih) l
noncomputable def greedy (md : Region.Mode) (l : List (Oper × Nat)) : Nat → Nat → List Nat :=
  nrec (fun _ => []) (fun _ ih done => match firstReady md l done with | some i => i :: ih (done ||| 2 ^ i) | none => [])
noncomputable def anyDeparts (ops : List Oper) : Bool := ops.any fun o => o.after.toList.any fun e => !(Region.binds .any e)
noncomputable def ordersOK (ops : List Oper) : Bool :=
  match anyDeparts ops with
  | false => witOK .any ops (List.range ops.length)
  | true => witOK .any ops (List.range ops.length) && (witOK .text ops (List.range ops.length) && witOK .gc ops (greedy .gc ops.zipIdx ops.length 0))
theorem schedule_order {ops : Array Oper} (h : ordersOK ops.toList = true) (mixed : Bool) (t : Nat) : Order ops [] (Region.schedule mixed ops t) := by
  have hd : Region.departs ops = anyDeparts ops.toList := by
    unfold Region.departs anyDeparts
    rw [← Array.any_toList]
    congr 1
    funext o
    rw [← Array.any_toList]
  unfold ordersOK at h
  unfold Region.schedule
  rw [hd]
  cases ha : anyDeparts ops.toList with
  | false =>
    rw [ha] at h
    simp only [Bool.not_false, Bool.or_true, if_true]
    exact linearise_order (witOK_ok h) t
  | true =>
    rw [ha] at h
    obtain ⟨h1, h2⟩ := (Bool.and_eq_true _ _).mp h
    obtain ⟨h2, h3⟩ := (Bool.and_eq_true _ _).mp h2
    split
    · exact linearise_order (witOK_ok h1) t
    · split
      · exact linearise_order (witOK_ok h2) _
      · exact linearise_order (witOK_ok h3) _
end Go.Am

namespace Go.Am
open Go
theorem masks_append (l : List Oper) (o : Oper) : masks (l ++ [o]) = masks l ++ [maskOf (masks l) o] := by simp [masks, List.foldl_append]
theorem snocInd {α : Type} {Q : List α → Prop} (h0 : Q []) (h1 : ∀ l a, Q l → Q (l ++ [a])) (l : List α) : Q l := by
  have key : ∀ m : List α, Q m.reverse := by
    intro m
    induction m with
    | nil => exact h0
    | cons a m ih => rw [List.reverse_cons]; exact h1 _ _ ih
  have := key l.reverse
  rwa [List.reverse_reverse] at this
theorem masks_length : ∀ l : List Oper, (masks l).length = l.length := by
  refine snocInd rfl ?_
  intro l o ih
  rw [masks_append]; simp [ih]
theorem masks_get : ∀ (l : List Oper) (i : Nat) (o : Oper), l[i]? = some o → (masks l)[i]? = some (maskOf ((masks l).take i) o) := by
  refine snocInd (fun i o h => by simp at h) ?_
  · intro l x ih i o h
    rw [masks_append]
    by_cases hi : i < l.length
    · rw [List.getElem?_append_left hi] at h
      rw [List.getElem?_append_left (by rw [masks_length]; exact hi), ih i o h]
      congr 2
      rw [List.take_append_of_le_length (by rw [masks_length]; omega)]
    · rw [List.getElem?_append_right (by omega)] at h
      have hi' : i - l.length = 0 := by
        cases hk : i - l.length with
        | zero => rfl
        | succ n => rw [hk] at h; simp at h
      rw [hi'] at h
      simp at h; subst h
      have : i = l.length := by omega
      subst this
      rw [List.getElem?_append_right (by rw [masks_length]; exact Nat.le_refl _)]
      simp only [masks_length, Nat.sub_self, List.getElem?_cons_zero]
      congr 2
      rw [List.take_append_of_le_length (by rw [masks_length]; exact Nat.le_refl _), ← masks_length l, List.take_length]
theorem maskOf_bits {acc : List Nat} {j : Nat} : ∀ (l : List Edge) (s : Nat), (l.foldl (fun s e => if Region.binds .any e then s ||| 2 ^ e.on ||| acc.getD e.on 0 else s) s).testBit j = true →
    s.testBit j = true ∨ ∃ e ∈ l, Region.binds .any e = true ∧ (j = e.on ∨ (acc.getD e.on 0).testBit j = true)
  | [], s, h => .inl h
  | e :: l, s, h => by
    rw [List.foldl_cons] at h
    rcases maskOf_bits l _ h with q | ⟨e', h1, h2⟩
    · split at q
      · rename_i hb
        rw [Nat.testBit_or, Nat.testBit_or, Nat.testBit_two_pow] at q
        rcases (Bool.or_eq_true _ _).mp q with q | q
        · rcases (Bool.or_eq_true _ _).mp q with q | q
          · exact .inl q
          · have he : e.on = j := by simpa using q
            exact .inr ⟨e, List.mem_cons_self, hb, .inl he.symm⟩
        · exact .inr ⟨e, List.mem_cons_self, hb, .inr q⟩
      · exact .inl q
    · exact .inr ⟨e', List.mem_cons_of_mem _ h1, h2⟩
noncomputable def msk (ops : List Oper) (i : Nat) : Nat := (masks ops).getD i 0
def Closed (ops : List Oper) (pre : List Nat) : Prop := ∀ i ∈ pre, ∀ j, (msk ops i).testBit j = true → j ∈ pre
theorem mask_in {ops : List Oper} {pre : List Nat} (hc : Closed ops pre) {i : Nat} {o : Oper} (ho : ops[i]? = some o) (he : ∀ e ∈ o.after.toList, Region.binds .any e = true → e.on ∈ pre) : ∀ j, (msk ops i).testBit j = true → j ∈ pre := by
  intro j hj
  unfold msk at hj
  rw [List.getD_eq_getElem?_getD, masks_get ops i o ho] at hj
  simp only [Option.getD_some] at hj
  unfold maskOf at hj
  rcases maskOf_bits _ _ hj with q | ⟨e, h1, h2, rfl | h3⟩
  · simp at q
  · exact he e h1 h2
  · refine hc e.on (he e h1 h2) j ?_
    unfold msk
    rw [List.getD_eq_getElem?_getD] at h3 ⊢
    rw [List.getElem?_take] at h3
    split at h3
    · exact h3
    · simp at h3
theorem Closed.cons {ops : List Oper} {pre : List Nat} (hc : Closed ops pre) {i : Nat} (h : ∀ j, (msk ops i).testBit j = true → j ∈ pre) : Closed ops (i :: pre) := by
  intro k hk j hj
  rcases List.mem_cons.1 hk with rfl | hk
  · exact List.mem_cons_of_mem _ (h j hj)
  · exact List.mem_cons_of_mem _ (hc k hk j hj)
noncomputable def tmpsIn (l : List Operand) : List Tmp := lrec [] (fun x _ ih => match x with | .tmp t => t :: ih | _ => ih) l
noncomputable def guardTmp (ops : List Oper) : Option (Nat × Bool) → List Tmp
  | none => []
  | some q => match lget ops q.1 with | some g => g.dst.toList | none => []
noncomputable def looks (ops : List Oper) (o : Oper) : List Tmp := guardTmp ops o.guard ++ tmpsIn o.op.operands.toList
noncomputable def names (ops : List Oper) (o : Oper) : List Tmp := o.dst.toList ++ looks ops o
noncomputable def memT (t : Tmp) (l : List Tmp) : Bool := lrec false (fun x _ ih => match Nat.beq t x with | true => true | false => ih) l
noncomputable def writesInto (d : Option Tmp) (l : List Tmp) : Bool := match d with | some t => memT t l | none => false
noncomputable def clash (ops : List Oper) (a b : Oper) : Bool := writesInto a.dst (names ops b) || writesInto b.dst (names ops a)
theorem memT_ok (t : Tmp) (l : List Tmp) : memT t l = true ↔ t ∈ l := by
  induction l with
  | nil => simp [memT, lrec_nil]
  | cons x l ih =>
    have : memT t (x :: l) = (match Nat.beq t x with | true => true | false => memT t l) := rfl
    rw [this]
    cases hb : Nat.beq t x with
    | true => have := natBeq hb; subst this; simp
    | false =>
      have : t ≠ x := fun q => by subst q; rw [Nat.beq_refl] at hb; simp at hb
      simp [ih, this]
theorem clash_of {ops : List Oper} {a b : Oper} {t : Tmp} (ha : a.dst = some t) (hb : t ∈ names ops b) : clash ops a b = true ∧ clash ops b a = true := by
  have : writesInto a.dst (names ops b) = true := by rw [ha]; exact (memT_ok _ _).2 hb
  constructor <;> simp [clash, this]
abbrev PsSt := Nat × List (Nat × Oper) × List Nat
noncomputable def okBehind (ops : List Oper) (m : Nat) (o : Oper) (q : Nat × Oper) : Bool := match isEff q.2.op || clash ops q.2 o with | true => m.testBit q.1 | false => true
noncomputable def pendOf (m : Nat) (done : List (Nat × Oper)) : List Nat := (done.filter fun q => !(isEff q.2.op) && (heapBound q.2.op && !(m.testBit q.1))).map (·.1)
noncomputable def nextPend (m : Nat) (done : List (Nat × Oper)) : Bool → List Nat
  | true => pendOf m done
  | false => []
noncomputable def noPend : List Nat → Bool
  | [] => true
  | _ :: _ => false
noncomputable def planPass (ops : List Oper) (ms : List Nat) (l : List PE) : Nat → List (Nat × Oper) → List Nat → Bool :=
  lrec (fun dm _ pend => noPend pend && (List.range ops.length).all fun i => dm.testBit i)
    (fun e _ ih dm done pend => match e with
      | .ex i o => noPend pend && ((!(dm.testBit i)) && (Nat.beq (ms.getD i 0 &&& dm) (ms.getD i 0) && (done.all (okBehind ops (ms.getD i 0) o) && ih (dm ||| 2 ^ i) ((i, o) :: done) (nextPend (ms.getD i 0) done (isEff o.op)))))
      | .re i _ => ih dm done (pend.filter fun j => !(Nat.beq j i))) l
structure PassAt (ops : List Oper) (e : PE) (a b : PsSt) : Prop where
  ex : ∀ i o, e = .ex i o → a.2.2 = [] ∧ a.1.testBit i = false ∧ (∀ j, (msk ops i).testBit j = true → a.1.testBit j = true) ∧ (∀ q ∈ a.2.1, (isEff q.2.op = true ∨ clash ops q.2 o = true) → (msk ops i).testBit q.1 = true) ∧
    b = (a.1 ||| 2 ^ i, (i, o) :: a.2.1, nextPend (msk ops i) a.2.1 (isEff o.op))
  re : ∀ i o, e = .re i o → b = (a.1, a.2.1, a.2.2.filter fun j => !(Nat.beq j i))
theorem pass_trace {ops : List Oper} : ∀ (l : List PE) {dm : Nat} {done : List (Nat × Oper)} {pend : List Nat}, planPass ops (masks ops) l dm done pend = true →
    ∃ ps : Nat → PsSt, ps 0 = (dm, done, pend) ∧ (∀ p e, l[p]? = some e → PassAt ops e (ps p) (ps (p + 1))) ∧ (ps l.length).2.2 = [] ∧ ∀ i, i < ops.length → (ps l.length).1.testBit i = true
  | [], dm, done, pend, h => by
    have h : (noPend pend && (List.range ops.length).all fun i => dm.testBit i) = true := h
    obtain ⟨h1, h2⟩ := (Bool.and_eq_true _ _).mp h
    refine ⟨fun _ => (dm, done, pend), rfl, fun p e he => by simp at he, ?_, fun i hi => List.all_eq_true.1 h2 i (List.mem_range.2 hi)⟩
    cases pend with
    | nil => rfl
    | cons _ _ => simp [noPend] at h1
  | e :: l, dm, done, pend, h => by
    have key : ∃ b : PsSt, PassAt ops e (dm, done, pend) b ∧ planPass ops (masks ops) l b.1 b.2.1 b.2.2 = true := by
      cases e with
      | ex i o =>
        have h : (noPend pend && ((!(dm.testBit i)) && (Nat.beq (msk ops i &&& dm) (msk ops i) && (done.all (okBehind ops (msk ops i) o) && planPass ops (masks ops) l (dm ||| 2 ^ i) ((i, o) :: done) (nextPend (msk ops i) done (isEff o.op)))))) = true := h
        obtain ⟨h1, h⟩ := (Bool.and_eq_true _ _).mp h
        obtain ⟨h2, h⟩ := (Bool.and_eq_true _ _).mp h
        obtain ⟨h3, h⟩ := (Bool.and_eq_true _ _).mp h
        obtain ⟨h4, h5⟩ := (Bool.and_eq_true _ _).mp h
        refine ⟨(dm ||| 2 ^ i, (i, o) :: done, nextPend (msk ops i) done (isEff o.op)), ⟨fun i' o' e => ?_, fun i' o' e => by simp at e⟩, h5⟩
        simp at e
        obtain ⟨rfl, rfl⟩ := e
        refine ⟨?_, by simpa using h2, fun j hj => ?_, fun q hq hor => ?_, rfl⟩
        · cases pend with
          | nil => rfl
          | cons _ _ => simp [noPend] at h1
        · have := natBeq h3
          rw [← this, Nat.testBit_and] at hj
          exact ((Bool.and_eq_true _ _).mp hj).2
        · have := List.all_eq_true.1 h4 q hq
          unfold okBehind at this
          have hb : (isEff q.2.op || clash ops q.2 o) = true := by
            rcases hor with h | h <;> simp [h]
          rw [hb] at this
          exact this
      | re i o =>
        exact ⟨(dm, done, pend.filter fun j => !(Nat.beq j i)), ⟨fun i' o' e => by simp at e, fun i' o' e => by simp at e; obtain ⟨rfl, rfl⟩ := e; rfl⟩, h⟩
    obtain ⟨b, hb, hrun⟩ := key
    obtain ⟨ps, t0, t1, t2⟩ := pass_trace l hrun
    refine ⟨fun n => match n with | 0 => (dm, done, pend) | n + 1 => ps n, rfl, ?_, t2⟩
    intro p e' he'
    cases p with
    | zero =>
      simp at he'
      subst he'
      show PassAt ops e (dm, done, pend) (ps 0)
      rw [t0]; exact hb
    | succ p => exact t1 p e' (by simpa using he')
theorem plan_own {ops : List Oper} : ∀ x ∈ planOf ops, (∀ i o, x = .ex i o → ops[i]? = some o) ∧ ∀ i o, x = .re i o → ops[i]? = some o := by
  have hz : ∀ p ∈ ops.zipIdx, ops[p.2]? = some p.1 := by
    intro p hp
    have := List.mem_zipIdx_iff_getElem?.1 hp
    exact this
  have key : ∀ (ms effs : List Nat) (l : List Nat) (k : Nat), ∀ x ∈ planFrom ops.zipIdx ms effs k l, (∀ i o, x = .ex i o → ops[i]? = some o) ∧ ∀ i o, x = .re i o → ops[i]? = some o := by
    intro ms effs l
    have hready : ∀ k, ∀ x ∈ readyAt ops.zipIdx ms effs k, (∀ i o, x = .ex i o → ops[i]? = some o) ∧ ∀ i o, x = .re i o → ops[i]? = some o := by
      intro k x hx
      obtain ⟨p, hp, rfl⟩ := List.mem_map.1 hx
      refine ⟨fun i o e => ?_, fun i o e => by simp at e⟩
      simp at e; obtain ⟨rfl, rfl⟩ := e
      exact hz p (List.mem_filter.1 hp).1
    induction l with
    | nil => intro k x hx; exact hready k x hx
    | cons e l ih =>
      intro k x hx
      simp only [planFrom, List.mem_append] at hx
      rcases hx with hx | hx | hx | hx
      · exact hready k x hx
      · obtain ⟨p, hp, rfl⟩ := List.mem_map.1 hx
        refine ⟨fun i o e => ?_, fun i o e => by simp at e⟩
        simp at e; obtain ⟨rfl, rfl⟩ := e
        exact hz p (List.mem_filter.1 hp).1
      · obtain ⟨p, hp, rfl⟩ := List.mem_map.1 hx
        refine ⟨fun i o e => by simp at e, fun i o e => ?_⟩
        simp at e; obtain ⟨rfl, rfl⟩ := e
        exact hz p (List.mem_filter.1 hp).1
      · exact ih (k + 1) x hx
  exact key _ _ _ _
noncomputable def drawOK (ops : List Oper) : Bool := ordersOK ops && planPass ops (masks ops) (planOf ops) 0 [] []
end Go.Am

namespace Go.Am
open Go
section
variable {ops : List Oper} {pl : List PE} {ps : Nat → PsSt} (h0 : ps 0 = (0, [], [])) (hps : ∀ p e, pl[p]? = some e → PassAt ops e (ps p) (ps (p + 1)))
include h0 hps
theorem done_iff : ∀ P, P ≤ pl.length → (∀ i o, (i, o) ∈ (ps P).2.1 ↔ ∃ p, p < P ∧ pl[p]? = some (.ex i o)) ∧ ∀ i, (ps P).1.testBit i = true ↔ ∃ o, (i, o) ∈ (ps P).2.1
  | 0, _ => by
    rw [h0]
    exact ⟨fun i o => ⟨fun h => by simp at h, fun ⟨p, h, _⟩ => by omega⟩, fun i => ⟨fun h => by simp at h, fun ⟨o, h⟩ => by simp at h⟩⟩
  | P + 1, hP => by
    obtain ⟨a1, a2⟩ := done_iff P (by omega)
    have hlt : P < pl.length := by omega
    have he := List.getElem?_eq_getElem hlt
    have hp := hps P _ he
    cases hx : pl[P] with
    | ex i o =>
      rw [hx] at hp he
      obtain ⟨_, _, _, _, hb⟩ := hp.ex i o rfl
      rw [hb]
      refine ⟨fun j o' => ?_, fun j => ?_⟩
      · rw [List.mem_cons, a1]
        constructor
        · rintro (h | ⟨p, h1, h2⟩)
          · simp at h; obtain ⟨rfl, rfl⟩ := h; exact ⟨P, by omega, he⟩
          · exact ⟨p, by omega, h2⟩
        · rintro ⟨p, h1, h2⟩
          rcases Nat.lt_or_ge p P with h | h
          · exact .inr ⟨p, h, h2⟩
          · have : p = P := by omega
            subst this
            rw [he] at h2; simp at h2
            exact .inl (by rw [h2.1, h2.2])
      · rw [Nat.testBit_or, Nat.testBit_two_pow, Bool.or_eq_true, a2]
        constructor
        · rintro (⟨o', h⟩ | h)
          · exact ⟨o', List.mem_cons_of_mem _ h⟩
          · have : i = j := by simpa using h
            subst this; exact ⟨o, List.mem_cons_self⟩
        · rintro ⟨o', h⟩
          rcases List.mem_cons.1 h with h | h
          · simp at h; exact .inr (by simp [h.1])
          · exact .inl ⟨o', h⟩
    | re i o =>
      rw [hx] at hp he
      have hb := hp.re i o rfl
      rw [hb]
      refine ⟨fun j o' => ?_, a2⟩
      rw [a1]
      constructor
      · rintro ⟨p, h1, h2⟩; exact ⟨p, by omega, h2⟩
      · rintro ⟨p, h1, h2⟩
        rcases Nat.lt_or_ge p P with h | h
        · exact ⟨p, h, h2⟩
        · have : p = P := by omega
          subst this
          rw [he] at h2; simp at h2
theorem ex_unique {p p' : Nat} {i : Nat} {o o' : Oper} (h1 : pl[p]? = some (.ex i o)) (h2 : pl[p']? = some (.ex i o')) : p = p' := by
  have key : ∀ {p p' : Nat} {o o' : Oper}, pl[p]? = some (.ex i o) → pl[p']? = some (.ex i o') → ¬ p < p' := by
    intro p p' o o' h1 h2 hlt
    have hl := (List.getElem?_eq_some_iff.1 h2).1
    obtain ⟨a1, a2⟩ := done_iff h0 hps p' (by omega)
    obtain ⟨_, hf, _⟩ := (hps p' _ h2).ex i o' rfl
    have := (a2 i).2 ⟨o, (a1 i o).2 ⟨p, hlt, h1⟩⟩
    rw [hf] at this; simp at this
  have := key h1 h2
  have := key h2 h1
  omega
theorem behind {p q : Nat} {i j : Nat} {o o' : Oper} (h1 : pl[p]? = some (.ex i o)) (h2 : pl[q]? = some (.ex j o')) (hlt : q < p) (hc : isEff o'.op = true ∨ clash ops o' o = true) : (msk ops i).testBit j = true := by
  have hl := (List.getElem?_eq_some_iff.1 h1).1
  obtain ⟨a1, a2⟩ := done_iff h0 hps p (by omega)
  obtain ⟨_, _, _, hb, _⟩ := (hps p _ h1).ex i o rfl
  exact hb (j, o') ((a1 j o').2 ⟨q, hlt, h2⟩) hc
end
end Go.Am

namespace Go.Am
open Go
theorem tin_putA (τ : List (List Value)) (dst : Option Tmp) (v : Value) (u : Nat) : tin (putA τ dst v) u ↔ tin τ u := by
  cases dst with
  | none => exact Iff.rfl
  | some d => exact tin_tset τ d u v
theorem tget_putA_ne (τ : List (List Value)) {dst : Option Tmp} {u : Nat} (h : dst ≠ some u) (v : Value) : tget (putA τ dst v) u = tget τ u := by
  cases dst with
  | none => rfl
  | some d => exact tget_tset_ne τ (fun e => h (by rw [e])) v
theorem tget_out {τ : List (List Value)} {t : Nat} (h : ¬ tin τ t) : tget τ t = undef := by
  unfold tin at h
  rw [tget_eq, List.getD_eq_getElem?_getD, List.getElem?_eq_none (by omega)]
  rfl
def StepPuts (a b : PSt) (dst : Option Tmp) (v : Value) : Prop := b.2.1.tmps = putA a.2.1.tmps dst v
theorem step_puts {C : Ctx} {self : Self} {rd : Option Nat} {ops : List Oper} {a b : PSt} {i : Nat} {o : Oper} (h : PStep C self rd ops a b (.ex i o)) : ∃ v, StepPuts a b o.dst v := by
  rcases h with ⟨_, rfl⟩ | ⟨_, _, _, h⟩ | ⟨_, _, e, _, h, _⟩
  · exact ⟨undef, by simp [StepPuts, put_eq']⟩
  · obtain ⟨v, D, p, h1, _⟩ := eff_local (τ := a.2.1.tmps) (τ' := a.2.1.tmps) (D := a.2.1.defers) (p := a.2.1.pan) (fun _ _ => rfl) _ _ h
    exact ⟨v, by simp [StepPuts, h1]⟩
  · cases e with
    | val v =>
      simp [putEV] at h
      exact ⟨v, by simp [StepPuts, ← h.1, put_eq']⟩
    | new x mk =>
      obtain ⟨_, h⟩ := guardB_eq h
      simp at h
      exact ⟨mk a.2.2.next, by simp [StepPuts, ← h.1, put_eq']⟩
section
variable {C : Ctx} {self : Self} {rd : Option Nat} {ops : List Oper} {pl : List PE} {tr : Nat → PSt} (htr : ∀ p e, pl[p]? = some e → PStep C self rd ops (tr p) (tr (p + 1)) e)
include htr
theorem stays {t : Tmp} {a : Nat} : ∀ {b : Nat}, a ≤ b → b ≤ pl.length → (∀ p i o, a ≤ p → p < b → pl[p]? = some (.ex i o) → o.dst ≠ some t) → tget (tr b).2.1.tmps t = tget (tr a).2.1.tmps t ∧ (tin (tr b).2.1.tmps t ↔ tin (tr a).2.1.tmps t)
  | b, hab, hb, hw => by
    by_cases he : a = b
    · subst he; exact ⟨rfl, Iff.rfl⟩
    · obtain ⟨b, rfl⟩ : ∃ c, b = c + 1 := ⟨b - 1, by omega⟩
      obtain ⟨i1, i2⟩ := stays (t := t) (a := a) (b := b) (by omega) (by omega) (fun p i o h1 h2 => hw p i o h1 (by omega))
      have hlt : b < pl.length := by omega
      have hx := List.getElem?_eq_getElem hlt
      cases hc : pl[b] with
      | re i o =>
        rw [hc] at hx
        obtain ⟨h1, _⟩ := htr b _ hx
        rw [h1]; exact ⟨i1, i2⟩
      | ex i o =>
        rw [hc] at hx
        obtain ⟨v, hv⟩ := step_puts (htr b _ hx)
        have hv : (tr (b + 1)).2.1.tmps = putA (tr b).2.1.tmps o.dst v := hv
        rw [hv]
        exact ⟨(tget_putA_ne _ (hw b i o (by omega) (by omega) hx) v).trans i1, (tin_putA _ _ _ _).trans i2⟩
termination_by b => b
theorem tin_all {t : Tmp} : ∀ {b : Nat}, b ≤ pl.length → (tin (tr b).2.1.tmps t ↔ tin (tr 0).2.1.tmps t)
  | 0, _ => Iff.rfl
  | b + 1, hb => by
    have ih := tin_all (t := t) (b := b) (by omega)
    have hlt : b < pl.length := by omega
    have hx := List.getElem?_eq_getElem hlt
    cases hc : pl[b] with
    | re i o =>
      rw [hc] at hx
      obtain ⟨h1, _⟩ := htr b _ hx
      rw [h1]; exact ih
    | ex i o =>
      rw [hc] at hx
      obtain ⟨v, hv⟩ := step_puts (htr b _ hx)
      have hv : (tr (b + 1)).2.1.tmps = putA (tr b).2.1.tmps o.dst v := hv
      rw [hv]
      exact (tin_putA _ _ _ _).trans ih
end
end Go.Am

namespace Go.Am
open Go
theorem new_bound {C : Ctx} {ρ : Operand → Value} {h : Heap} {op : Op} {x : AObj} {mk : Nat → Value} (he : earlyVal C ρ h op = some (.new x mk)) : heapBound op = true := by
  cases hb : heapBound op with
  | true => rfl
  | false =>
    exfalso
    cases op <;> simp [heapBound] at hb <;> simp only [earlyVal] at he <;> first
      | (simp at he; done)
      | (obtain ⟨a, _, h1⟩ := obind_eq he; simp [asVal] at h1; done)
      | (simp [asVal] at he; done)
      | (unfold aPick at he; split at he <;> simp [asVal] at he; done)
      | (obtain ⟨a, _, h1⟩ := obind_eq he; obtain ⟨_, h2⟩ := guardB_eq h1; simp [asVal] at h2; done)
      | (obtain ⟨a, _, h1⟩ := obind_eq he; obtain ⟨_, _, h2⟩ := obind_eq h1; obtain ⟨_, h3⟩ := guardB_eq h2; simp [asVal] at h3; done)
      | (obtain ⟨a, _, h1⟩ := obind_eq he; obtain ⟨_, _, h2⟩ := obind_eq h1; obtain ⟨_, _, h3⟩ := obind_eq h2; simp [asVal] at h3; done)
      | (obtain ⟨a, _, h1⟩ := obind_eq he; obtain ⟨_, _, h2⟩ := obind_eq h1; simp [asVal] at h2; done)
      | (obtain ⟨_, h1⟩ := guardB_eq he; simp [asVal] at h1; done)
      | (unfold aNilCheck nilFn nilIface1 at he; repeat' split at he
         all_goals first | (simp [asVal] at he; done) | (obtain ⟨_, h1⟩ := guardB_eq he; simp [asVal] at h1; done) | (obtain ⟨_, _, h1⟩ := obind_eq he; obtain ⟨_, h2⟩ := guardB_eq h1; simp [asVal] at h2; done) | (obtain ⟨_, _, h1⟩ := obind_eq he; simp [asVal] at h1; done))
def Holds (C : Ctx) (a : PSt) (op : Op) (h : Heap) : EV → Prop
  | .val v => earlyVal C (ev a.2.1.tmps) h op = some (.val v)
  | .new x _ => h.get a.2.2.next = some x
theorem findRec_cons (i : Nat) (r : Rec) (l : List Rec) : findRec i (r :: l) = (match Nat.beq r.idx i with | true => some r | false => findRec i l) := rfl
theorem recEV_idx (i : Nat) (τ : List (List Value)) (h : Heap) (e : EV) : (recEV i τ h e).idx = i := by cases e <;> rfl
theorem putEV_heap {dst : Option Tmp} {s s' : FrS} {h h' : Heap} {e : EV} (hp : putEV dst s h e = some (.ok s' h')) : HLe h h' ∧ s'.defers = s.defers ∧ s'.pan = s.pan ∧ h.next ≤ h'.next ∧
    (∀ v, e = .val v → h' = h) ∧ ∀ x mk, e = .new x mk → h' = h.alloc x ∧ freshAt (h.get h.next) = true := by
  cases e with
  | val v =>
    simp [putEV] at hp
    obtain ⟨rfl, rfl⟩ := hp
    refine ⟨HLe.refl _, ?_, ?_, Nat.le_refl _, fun _ _ => rfl, fun x mk e => by simp at e⟩ <;> cases dst <;> rfl
  | new x mk =>
    obtain ⟨h1, h2⟩ := guardB_eq hp
    simp at h2
    obtain ⟨rfl, rfl⟩ := h2
    refine ⟨HLe.alloc h1 x, ?_, ?_, by simp, fun v e => by simp at e, fun x' mk' e => ?_⟩
    · cases dst <;> rfl
    · cases dst <;> rfl
    · simp at e; obtain ⟨rfl, _⟩ := e; exact ⟨rfl, h1⟩
section
variable {C : Ctx} {self : Self} {rd : Option Nat} {ops : List Oper} {pl : List PE} {tr : Nat → PSt} {ps : Nat → PsSt}
  (h0 : ps 0 = (0, [], [])) (hps : ∀ p e, pl[p]? = some e → PassAt ops e (ps p) (ps (p + 1)))
  (htr : ∀ p e, pl[p]? = some e → PStep C self rd ops (tr p) (tr (p + 1)) e)
  (hown : ∀ x ∈ pl, (∀ i o, x = .ex i o → ops[i]? = some o) ∧ ∀ i o, x = .re i o → ops[i]? = some o)
include h0 hps htr
structure Did (C : Ctx) (ops : List Oper) (pl : List PE) (tr : Nat → PSt) (p i : Nat) (o : Oper) (e : EV) : Prop where
  at' : pl[p]? = some (.ex i o)
  early : isEff o.op = false
  want : wantedA ops o (tr p).2.1.tmps = true
  ev' : earlyVal C (ev (tr p).2.1.tmps) (tr p).2.2 o.op = some e
omit h0 hps in
theorem Did.step {p i : Nat} {o : Oper} {e : EV} (D : Did C ops pl tr p i o e) : putEV o.dst (tr p).2.1 (tr p).2.2 e = some (.ok (tr (p + 1)).2.1 (tr (p + 1)).2.2) ∧ (tr (p + 1)).1 = recEV i (tr p).2.1.tmps (tr p).2.2 e :: (tr p).1 := by
  rcases htr p _ D.at' with ⟨h1, _⟩ | ⟨_, h1, _⟩ | ⟨_, _, e', h1, h2, h3⟩
  · rw [D.want] at h1; simp at h1
  · rw [D.early] at h1; simp at h1
  · rw [D.ev'] at h1; simp at h1; subst h1
    exact ⟨h2, h3⟩
theorem rec_at {p i : Nat} {o : Oper} {e : EV} (D : Did C ops pl tr p i o e) : ∀ P, p < P → P ≤ pl.length → findRec i (tr P).1 = some (recEV i (tr p).2.1.tmps (tr p).2.2 e)
  | 0, h, _ => by omega
  | P + 1, h, hP => by
    by_cases hp : p = P
    · subst hp
      rw [(D.step htr).2, findRec_cons, recEV_idx, Nat.beq_refl]
    · have ih := rec_at D P (by omega) (by omega)
      have hlt : P < pl.length := by omega
      have hx := List.getElem?_eq_getElem hlt
      cases hc : pl[P] with
      | re j o' =>
        rw [hc] at hx
        obtain ⟨h1, _⟩ := htr P _ hx
        rw [h1]; exact ih
      | ex j o' =>
        rw [hc] at hx
        rcases htr P _ hx with ⟨_, h1⟩ | ⟨_, _, h1, _⟩ | ⟨_, _, e', _, _, h1⟩
        · rw [h1]; exact ih
        · rw [h1]; exact ih
        · rw [h1, findRec_cons, recEV_idx]
          cases hb : Nat.beq j i with
          | true =>
            have hji := natBeq hb
            subst hji
            exact absurd (ex_unique h0 hps D.at' hx) hp
          | false => exact ih
include hown in
theorem holds_at {p i : Nat} {o : Oper} {e : EV} (D : Did C ops pl tr p i o e) : ∀ P, p < P → P ≤ pl.length → (∀ q j o', q < P → pl[q]? = some (.ex j o') → isEff o'.op = true → ¬ (msk ops j).testBit i = true) → i ∉ (ps P).2.2 → Holds C (tr p) o.op (tr P).2.2 e
  | 0, h, _, _, _ => by omega
  | P + 1, h, hP, hq, hi => by
    have hlt : P < pl.length := by omega
    have hx := List.getElem?_eq_getElem hlt
    by_cases hp : p = P
    · subst hp
      obtain ⟨_, _, _, _, h1, h2⟩ := putEV_heap (D.step htr).1
      cases e with
      | val v => show earlyVal C _ _ _ = _; rw [h1 v rfl]; exact D.ev'
      | new x mk => show (tr (p + 1)).2.2.get _ = _; rw [(h2 x mk rfl).1]; exact Heap.get_alloc_self _ _
    · have hpP : p < P := by omega
      have ih : i ∉ (ps P).2.2 → Holds C (tr p) o.op (tr P).2.2 e := holds_at D P hpP (by omega) (fun q j o' a => hq q j o' (by omega))
      cases hc : pl[P] with
      | re j o' =>
        rw [hc] at hx
        obtain ⟨h1, h2⟩ := htr P _ hx
        have hb := (hps P _ hx).re j o' rfl
        rw [hb] at hi
        rw [h1]
        by_cases hij : i = j
        · subst hij
          have hoo : o' = o := by
            have e1 := (hown _ (List.mem_of_getElem? hx)).2 i o' rfl
            have e2 := (hown _ (List.mem_of_getElem? D.at')).1 i o rfl
            rw [e1] at e2; simpa using e2
          subst hoo
          rw [rec_at h0 hps htr D P hpP (by omega)] at h2
          cases e with
          | val v =>
            have h2 : sameEV v (earlyVal C (ev (tr p).2.1.tmps) (tr P).2.2 o'.op) = true := h2
            unfold sameEV at h2
            split at h2
            · rename_i v' hv'
              show earlyVal C _ _ _ = _
              rw [hv', sameV_eq h2]
            · simp at h2
          | new x mk =>
            have h2 : sameAt x ((tr P).2.2.get (tr p).2.2.next) = true := h2
            unfold sameAt at h2
            split at h2
            · rename_i y hy
              show (tr P).2.2.get _ = _
              rw [hy, sameO_eq h2]
            · simp at h2
        · refine ih fun hm => hi ?_
          refine List.mem_filter.2 ⟨hm, ?_⟩
          cases hbq : Nat.beq i j with
          | true => exact absurd (natBeq hbq) hij
          | false => rfl
      | ex j o' =>
        rw [hc] at hx
        obtain ⟨hnil, _, _, _, hb⟩ := (hps P _ hx).ex j o' rfl
        have ih := ih (by rw [hnil]; simp)
        rcases htr P _ hx with ⟨_, h1⟩ | ⟨_, heff, _, _⟩ | ⟨_, _, e', _, h2, _⟩
        · rw [h1]; exact ih
        · have hm := hq P j o' (by omega) hx heff
          have hmem : (i, o) ∈ (ps P).2.1 := ((done_iff h0 hps P (by omega)).1 i o).2 ⟨p, hpP, D.at'⟩
          have hhb : heapBound o.op = false := by
            cases hh : heapBound o.op with
            | false => rfl
            | true =>
              refine absurd ?_ hi
              rw [hb, heff]
              show i ∈ pendOf (msk ops j) (ps P).2.1
              unfold pendOf
              refine List.mem_map.2 ⟨(i, o), List.mem_filter.2 ⟨hmem, ?_⟩, rfl⟩
              have : (msk ops j).testBit i = false := by simpa using hm
              simp [D.early, hh, this]
          cases e with
          | val v =>
            show earlyVal C _ _ _ = _
            rw [early_pure hhb]; exact ih
          | new x mk =>
            have := new_bound D.ev'
            rw [hhb] at this; simp at this
        · have hle := (putEV_heap h2).1
          cases e with
          | val v => exact early_mono hle ih
          | new x mk => exact hle.2 _ _ ih
end
end Go.Am
