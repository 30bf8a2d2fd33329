/- Parts Am32, Am33, Am34 of the abstract machine over this program, joined: what each part says stands at its head. -/
import Derived.Test.YtlflfbnnjlkkcaaGreatJAm29
set_option linter.unusedSimpArgs false
set_option linter.unusedVariables false
set_option linter.defProp false
namespace Go.Am
open Go
def Self.le (S S' : Self) : Prop := ∀ rd k s h r, S rd k s h = some r → S' rd k s h = some r
structure Cont {β : Type} (C : Ctx) (R : Self) (Φ : Self → Option β) : Prop where
  mono : ∀ S S', Self.le S S' → ∀ b, Φ S = some b → Φ S' = some b
  near : ∀ b, Φ R = some b → ∃ n, ∀ m, n ≤ m → Φ (run C m) = some b
section
variable {C : Ctx} {R : Self}
theorem Cont.const {β : Type} (o : Option β) : Cont C R (fun _ => o) := ⟨fun _ _ _ _ h => h, fun _ h => ⟨0, fun _ _ => h⟩⟩
theorem Cont.bind {α β : Type} {Φ : Self → Option α} {Ψ : Self → α → Option β} (h : Cont C R Φ) (h' : ∀ a, Cont C R (fun S => Ψ S a)) : Cont C R (fun S => obind (Φ S) (Ψ S)) := by
  constructor
  · intro S S' hl b hb
    obtain ⟨a, ha, h1⟩ := obind_eq hb
    rw [h.mono S S' hl a ha]
    exact (h' a).mono S S' hl b h1
  · intro b hb
    obtain ⟨a, ha, h1⟩ := obind_eq hb
    obtain ⟨n, hn⟩ := h.near a ha
    obtain ⟨m, hm⟩ := (h' a).near b h1
    refine ⟨max n m, fun q hq => ?_⟩
    show obind (Φ (run C q)) _ = _
    rw [hn q (by omega)]
    exact hm q (by omega)
theorem Cont.guard {β : Type} {Φ : Self → Option β} (b : Bool) (h : Cont C R Φ) : Cont C R (fun S => guardB b (Φ S)) := by
  cases b
  · exact .const none
  · exact h
end
section
variable {C : Ctx} {R : Self} (hR : ∀ rd k s h, Cont C R (fun S => S rd k s h))
include hR
theorem cont_bodyOf (fn : Func) (args : List Value) (pan : Option Value) (h : Heap) : Cont C R (fun S => bodyOf S fn args pan h) :=
  .bind (.const _) fun _ => hR _ _ _ _
theorem cont_callPlain (f : FuncId) (args : List Value) (h : Heap) (pan : Option Value) : Cont C R (fun S => callPlain C S f args h pan) :=
  .bind (.const _) fun _ => .bind (cont_bodyOf hR _ _ _ _) fun _ => .guard _ (.const _)
theorem cont_runDefer1 (d : Deferred) (m : Option Value) (h : Heap) : Cont C R (fun S => runDefer1 C S d m h) := by
  obtain ⟨t, a⟩ := d
  cases t with
  | collected b => exact .const _
  | fn f cap =>
    cases f <;> try exact .const _
    rename_i g
    show Cont C R (fun S => match C.A g with | some _ => none | none => obind (callPlain C S g (a.toList ++ cap.toList) h m) retOf)
    cases C.A g
    · exact .bind (cont_callPlain hR _ _ _ _) fun _ => .const _
    · exact .const _
  | _ => exact .const _
theorem cont_runDefers (ds : List Deferred) : ∀ (m : Option Value) (h : Heap), Cont C R (fun S => runDefers C S ds m h) := by
  induction ds with
  | nil => intro m h; exact .const _
  | cons d ds ih => intro m h; exact .bind (cont_runDefer1 hR d m h) fun q => ih q.1 q.2
theorem cont_callBody (fn : Func) (args : List Value) (h : Heap) : Cont C R (fun S => callBody C S fn args h) :=
  .bind (cont_bodyOf hR _ _ _ _) fun _ => .bind (.const _) fun _ => .bind (cont_runDefers hR _ _ _) fun _ => .const _
theorem cont_callF (f : FuncId) (args : List Value) (h : Heap) : Cont C R (fun S => callF C S f args h) := by
  unfold callF
  cases C.A f
  · exact .bind (.const _) fun _ => cont_callBody hR _ _ _
  · exact .const _
theorem cont_callM (recv : Value) (name : String) (args : List Value) (h : Heap) : Cont C R (fun S => callM C S recv name args h) := by
  cases recv <;> first | exact .const _ | exact .bind (.const _) fun _ => cont_callF hR _ _ _
theorem cont_yieldTo (l : Nat) (args : List Value) (h : Heap) : Cont C R (fun S => yieldTo S l args h) :=
  .bind (.const _) fun _ => .guard _ (.bind (hR _ _ _ _) fun _ => .const _)
theorem cont_applyFn (fn : Fn) (cap args : List Value) (h : Heap) : Cont C R (fun S => applyFn C S fn cap args h) := by
  cases fn with
  | func f => exact cont_callF hR _ _ _
  | method n =>
    cases args with
    | nil => exact .const _
    | cons a l => exact cont_callM hR _ _ _ _
  | yield l => exact cont_yieldTo hR _ _ _
  | _ => exact .const _
theorem cont_callVal (dst : Option Tmp) (args : List Value) (s : FrS) (h : Heap) (v : Value) : Cont C R (fun S => callVal C S dst args s h v) := by
  cases v <;> first | exact .const _ | exact .bind (cont_applyFn hR _ _ _ _) fun _ => .const _
theorem cont_callOp (rd : Option Nat) (dst : Option Tmp) (c : Call) (s : FrS) (h : Heap) : Cont C R (fun S => callOp C S rd dst c s h) := by
  obtain ⟨cal, args, ats⟩ := c
  cases cal with
  | value f => exact cont_callVal hR _ _ _ _ _
  | invoke r name => exact .bind (cont_callM hR _ _ _ _) fun _ => .const _
  | builtin b => exact .const _
theorem cont_effOp (rd : Option Nat) (dst : Option Tmp) (s : FrS) (h : Heap) (op : Op) : Cont C R (fun S => effOp C S rd dst s h op) := by
  cases op <;> first | exact .const _ | exact cont_callOp hR _ _ _ _ _
theorem cont_doOp (rd : Option Nat) (o : Oper) (s : FrS) (h : Heap) : Cont C R (fun S => doOp C S rd o s h) := by
  unfold doOp
  cases isEff o.op
  · exact .const _
  · exact cont_effOp hR _ _ _ _ _
theorem cont_runOps (rd : Option Nat) (ops : List Oper) (l : List Oper) : ∀ s h, Cont C R (fun S => runOps C S rd ops l s h) := by
  induction l with
  | nil => intro s h; exact .const _
  | cons o l ih =>
    intro s h
    show Cont C R (fun S => runOp C S rd ops o (runOps C S rd ops l) s h)
    unfold runOp
    cases wantedA ops o s.tmps
    · exact ih _ _
    · refine .bind (cont_doOp hR _ _ _ _) fun r => ?_
      cases r with
      | ok s h => exact ih s h
      | panic v s h => exact .const _
theorem cont_runPlan (rd : Option Nat) (ops : List Oper) (l : List PE) : ∀ rs s h, Cont C R (fun S => runPlan C S rd ops l rs s h) := by
  induction l with
  | nil => intro rs s h; exact .const _
  | cons e l ih =>
    intro rs s h
    show Cont C R (fun S => exPE C S rd ops (runPlan C S rd ops l) rs s h e)
    cases e with
    | re i o => exact .guard _ (ih _ _ _)
    | ex i o =>
      simp only [exPE]
      cases wantedA ops o s.tmps
      · exact ih _ _ _
      · unfold exOp
        have key : ∀ rs r, Cont C R (fun S => thenPlan (runPlan C S rd ops l) rs r) := fun rs r => by
          cases r with
          | ok s h => exact ih rs s h
          | panic v s h => exact .const _
        cases isEff o.op
        · exact .bind (.const _) fun e => .bind (.const _) fun r => key _ r
        · exact .bind (cont_effOp hR _ _ _ _ _) fun r => key _ r
theorem cont_after (rd : Option Nat) (k : List Item) (r : ORes) : Cont C R (fun S => afterOps S rd k r) := by
  cases r with
  | ok s h => exact hR _ _ _ _
  | panic v s h => exact .const _
theorem cont_endLoop (rd : Option Nat) (k : List Item) (s : FrS) (l : Nat) (m : List Deferred) (h : Heap) : Cont C R (fun S => endLoopA S rd k s l m h) :=
  .bind (.const _) fun _ => .guard _ (hR _ _ _ _)
theorem cont_range (rd : Option Nat) (params : List Tmp) (assign body : Code) (k : List Item) (s : FrS) (h : Heap) (v : Value) : Cont C R (fun S => stRange C S rd params assign body k s h v) := by
  cases v <;> try exact .const _
  refine .bind (.const _) fun q => .bind (cont_applyFn hR _ _ _ _) fun r => ?_
  cases r with
  | ret v h p => exact cont_endLoop hR _ _ _ _ _ _
  | panic v h => exact .const _
theorem cont_step (rd : Option Nat) (k : List Item) (s : FrS) (h : Heap) : Cont C R (fun S => step C S rd k s h) := by
  cases k with
  | nil => exact .const _
  | cons it k =>
    show Cont C R (fun S => stItem C S rd k s h it)
    cases it with
    | code c =>
      show Cont C R (fun S => stCode C S rd k s h c)
      cases c <;> try first | exact .const _ | exact hR _ _ _ _
      case cond c t e =>
        show Cont C R (fun S => stCond S rd t e k s h (ev s.tmps c))
        generalize ev s.tmps c = v
        unfold stCond
        split <;> first | exact hR _ _ _ _ | exact .const _
      case exit id =>
        show Cont C R (fun S => stExit S rd id s h (exitTo id k))
        cases exitTo id k
        · exact .const _
        · exact hR _ _ _ _
      case region id ops draw =>
        cases draw
        · exact .bind (cont_runOps hR _ _ _ _ _) fun r => cont_after hR _ _ r
        · exact .bind (cont_runPlan hR _ _ _ _ _ _) fun r => cont_after hR _ _ r
      case rangeFunc f params assign body => exact cont_range hR _ _ _ _ _ _ _ _
    | beginRound => exact .bind (.const _) fun _ => .bind (.const _) fun _ => .guard _ (hR _ _ _ _)
    | inBlock _ => exact hR _ _ _ _
    | inScope _ => exact hR _ _ _ _
    | inLoop _ => exact hR _ _ _ _
    | _ => exact .const _
end
theorem run_succ (C : Ctx) (n : Nat) : run C (n + 1) = step C (run C n) := rfl
theorem run_le_succ (C : Ctx) : ∀ n, Self.le (run C n) (run C (n + 1))
  | 0 => fun rd k s h r hr => by simp [run, nrec_zero] at hr
  | n + 1 => fun rd k s h r hr => by
    rw [run_succ] at hr ⊢
    have hc : Cont C (fun _ _ _ _ => none) (fun S => step C S rd k s h) := cont_step (fun rd k s h => ⟨fun S S' hl b hb => hl _ _ _ _ _ hb, fun b hb => by simp at hb⟩) rd k s h
    exact hc.mono _ _ (run_le_succ C n) r hr
theorem run_le (C : Ctx) {n m : Nat} (h : n ≤ m) : Self.le (run C n) (run C m) := by
  induction h with
  | refl => exact fun _ _ _ _ _ a => a
  | step _ ih => exact fun rd k s h r hr => run_le_succ C _ rd k s h r (ih rd k s h r hr)
open Classical in
noncomputable def Lim (C : Ctx) : Self := fun rd k s h => if hx : ∃ r n, run C n rd k s h = some r then some hx.choose else none
theorem Lim_of {C : Ctx} {n : Nat} {rd : Option Nat} {k : List Item} {s : FrS} {h : Heap} {r : FEnd × FrS × Heap} (hr : run C n rd k s h = some r) : Lim C rd k s h = some r := by
  have hx : ∃ r n, run C n rd k s h = some r := ⟨r, n, hr⟩
  unfold Lim
  rw [dif_pos hx]
  obtain ⟨m, hm⟩ := hx.choose_spec
  have h1 := run_le C (Nat.le_max_left n m) _ _ _ _ _ hr
  have h2 := run_le C (Nat.le_max_right n m) _ _ _ _ _ hm
  rw [h1] at h2
  simpa using h2.symm
theorem Lim_to {C : Ctx} {rd : Option Nat} {k : List Item} {s : FrS} {h : Heap} {r : FEnd × FrS × Heap} (hr : Lim C rd k s h = some r) : ∃ n, run C n rd k s h = some r := by
  unfold Lim at hr
  split at hr
  · rename_i hx
    obtain ⟨m, hm⟩ := hx.choose_spec
    simp at hr
    rw [hr] at hm
    exact ⟨m, hm⟩
  · simp at hr
theorem Lim_ge {C : Ctx} (n : Nat) : Self.le (run C n) (Lim C) := fun _ _ _ _ _ h => Lim_of h
theorem Lim_cont (C : Ctx) (rd : Option Nat) (k : List Item) (s : FrS) (h : Heap) : Cont C (Lim C) (fun S => S rd k s h) :=
  ⟨fun _ _ hl _ hb => hl _ _ _ _ _ hb, fun b hb => by
    obtain ⟨n, hn⟩ := Lim_to hb
    exact ⟨n, fun m hm => run_le C hm _ _ _ _ _ hn⟩⟩
theorem Lim_eq (C : Ctx) (rd : Option Nat) (k : List Item) (s : FrS) (h : Heap) : Lim C rd k s h = step C (Lim C) rd k s h := by
  have hc := cont_step (Lim_cont C) rd k s h
  cases hs : step C (Lim C) rd k s h with
  | some r =>
    obtain ⟨n, hn⟩ := hc.near r hs
    exact Lim_of (n := n + 1) (hn n (Nat.le_refl _))
  | none =>
    cases hl : Lim C rd k s h with
    | none => rfl
    | some r =>
      obtain ⟨n, hn⟩ := Lim_to hl
      cases n with
      | zero => simp [run, nrec_zero] at hn
      | succ n =>
        rw [run_succ] at hn
        have := hc.mono _ _ (Lim_ge n) r hn
        rw [hs] at this; simp at this
theorem callF_near {C : Ctx} {f : FuncId} {args : List Value} {h : Heap} {r : FRes} (hr : callF C (Lim C) f args h = some r) : ∃ n, callF C (run C n) f args h = some r :=
  let ⟨n, hn⟩ := (cont_callF (Lim_cont C) f args h).near r hr
  ⟨n, hn n (Nat.le_refl _)⟩
end Go.Am

namespace Go.Am
open Go
def W (x : Fin) (Q : FEnd → FrS → Heap → Prop) : Prop := ∃ r s h, x = some (r, s, h) ∧ Q r s h
theorem W_some (r : FEnd) (s : FrS) (h : Heap) (Q : FEnd → FrS → Heap → Prop) : W (some (r, s, h)) Q ↔ Q r s h := by
  constructor
  · rintro ⟨r', s', h', e, q⟩; simp at e; obtain ⟨rfl, rfl, rfl⟩ := e; exact q
  · exact fun q => ⟨r, s, h, rfl, q⟩
section
variable {C : Ctx} {rd : Option Nat} {ops l : List Oper} {k : List Item} {τ : List (List Value)} {s : FrS} {h : Heap} {Q : FEnd → FrS → Heap → Prop}
theorem L_nil : Lim C rd [] s h = some (.ended none, s, h) := by rw [Lim_eq]; rfl
theorem L_ret : Lim C rd (.code .ret :: k) s h = some (.ended (some .ret), s, h) := by rw [Lim_eq]; rfl
theorem L_skip : Lim C rd (.code .skip :: k) s h = Lim C rd k s h := by rw [Lim_eq]; rfl
theorem L_label (n : Nat) : Lim C rd (.code (.label n) :: k) s h = Lim C rd k s h := by rw [Lim_eq]; rfl
theorem L_seq (a b : Code) : Lim C rd (.code (.seq a b) :: k) s h = Lim C rd (.code a :: .code b :: k) s h := by rw [Lim_eq]; rfl
theorem L_block (n : Nat) (c : Code) : Lim C rd (.code (.block n c) :: k) s h = Lim C rd (.code c :: .inBlock n :: k) s h := by rw [Lim_eq]; rfl
theorem L_scope (c : Code) : Lim C rd (.code (.scope c) :: k) s h = Lim C rd (.code c :: .inScope c :: k) s h := by rw [Lim_eq]; rfl
theorem L_inBlock (n : Nat) : Lim C rd (.inBlock n :: k) s h = Lim C rd k s h := by rw [Lim_eq]; rfl
theorem L_inScope (c : Code) : Lim C rd (.inScope c :: k) s h = Lim C rd k s h := by rw [Lim_eq]; rfl
theorem L_inLoop (c : Code) : Lim C rd (.inLoop c :: k) s h = Lim C rd (.code c :: .inLoop c :: k) s h := by rw [Lim_eq]; rfl
theorem L_loop (c : Code) : Lim C rd (.code (.loop c) :: k) s h = Lim C rd (.inLoop c :: k) s h := by rw [L_inLoop, Lim_eq]; rfl
theorem L_exit (n : Nat) : Lim C rd (.code (.exit n) :: k) s h = stExit (Lim C) rd n s h (exitTo n k) := by rw [Lim_eq]; rfl
theorem L_cond (c : Operand) (t e : Code) : Lim C rd (.code (.cond c t e) :: k) s h = stCond (Lim C) rd t e k s h (ev s.tmps c) := by rw [Lim_eq]; rfl
theorem X_some (n : Nat) (k' : List Item) : stExit (Lim C) rd n s h (some k') = Lim C rd k' s h := rfl
theorem X_none (n : Nat) : stExit (Lim C) rd n s h none = some (.ended (some (.exit n)), s, h) := rfl
theorem B_true (t e : Code) : stCond (Lim C) rd t e k s h (.bool true) = Lim C rd (.code t :: k) s h := rfl
theorem B_false (t e : Code) : stCond (Lim C) rd t e k s h (.bool false) = Lim C rd (.code e :: k) s h := rfl
theorem E_block (n m : Nat) : exitTo n (.inBlock m :: k) = if m = n then some k else exitTo n k := by
  by_cases e : m = n
  · subst e; rw [if_pos rfl, exitTo, if_pos (by simp)]
  · rw [if_neg e, exitTo, if_neg (by simpa using e)]
theorem E_code (n : Nat) (c : Code) : exitTo n (.code c :: k) = exitTo n k := rfl
theorem E_loop (n : Nat) (c : Code) : exitTo n (.inLoop c :: k) = exitTo n k := rfl
theorem E_scope (n : Nat) (c : Code) : exitTo n (.inScope c :: k) = exitTo n k := rfl
theorem E_nil (n : Nat) : exitTo n [] = none := rfl
noncomputable def RO (C : Ctx) (rd : Option Nat) (ops l : List Oper) (k : List Item) (s : FrS) (h : Heap) : Fin := obind (runOps C (Lim C) rd ops l s h) (afterOps (Lim C) rd k)
noncomputable def ROr (C : Ctx) (rd : Option Nat) (ops l : List Oper) (k : List Item) : Option ORes → Fin
  | some (.ok s h) => RO C rd ops l k s h
  | some (.panic v s h) => some (.panic v, s, h)
  | none => none
theorem L_region (id : Nat) (o : Array Oper) : Lim C rd (.code (.region id o false) :: k) s h = RO C rd o.toList o.toList k s h := by rw [Lim_eq]; rfl
theorem RO_nil : RO C rd ops [] k s h = Lim C rd k s h := rfl
theorem RO_or (o : Option ORes) : obind (obind o (thenOps (runOps C (Lim C) rd ops l))) (afterOps (Lim C) rd k) = ROr C rd ops l k o := by
  cases o with
  | none => rfl
  | some r => cases r <;> rfl
theorem RO_cons (o : Oper) : RO C rd ops (o :: l) k s h = match wantedA ops o s.tmps with | true => ROr C rd ops l k (doOp C (Lim C) rd o s h) | false => RO C rd ops l k (s.put o.dst undef) h := by
  show obind (runOp C (Lim C) rd ops o (runOps C (Lim C) rd ops l) s h) _ = _
  unfold runOp
  cases wantedA ops o s.tmps
  · rfl
  · exact RO_or _
theorem ROr_ok : ROr C rd ops l k (some (.ok s h)) = RO C rd ops l k s h := rfl
noncomputable def ROe (C : Ctx) (rd : Option Nat) (ops l : List Oper) (k : List Item) (dst : Option Tmp) (s : FrS) (h : Heap) : Option EV → Fin
  | some (.val v) => RO C rd ops l k (s.put dst v) h
  | some (.new x mk) => match freshAt (h.get h.next) with
    | true => RO C rd ops l k (s.put dst (mk h.next)) (h.alloc x)
    | false => none
  | none => none
noncomputable def ROv (C : Ctx) (rd : Option Nat) (ops l : List Oper) (k : List Item) (dst : Option Tmp) (s : FrS) (h : Heap) : Option Value → Fin
  | some v => RO C rd ops l k (s.put dst v) h
  | none => none
noncomputable def ROh (C : Ctx) (rd : Option Nat) (ops l : List Oper) (k : List Item) (dst : Option Tmp) (s : FrS) : Option Heap → Fin
  | some h => RO C rd ops l k (s.put dst undef) h
  | none => none
noncomputable def ROq (C : Ctx) (rd : Option Nat) (ops l : List Oper) (k : List Item) (dst : Option Tmp) (s : FrS) : Option (Value × Heap) → Fin
  | some q => RO C rd ops l k (s.put dst q.1) q.2
  | none => none
noncomputable def ROc (C : Ctx) (rd : Option Nat) (ops l : List Oper) (k : List Item) (dst : Option Tmp) (s : FrS) : Option FRes → Fin
  | some (.ret v h _) => RO C rd ops l k (s.put dst v) h
  | some (.panic v h) => some (.panic v, s, h)
  | none => none
theorem ROe_val (dst : Option Tmp) (v : Value) : ROe C rd ops l k dst s h (some (.val v)) = RO C rd ops l k (s.put dst v) h := rfl
theorem ROe_as (dst : Option Tmp) (v : Value) : ROe C rd ops l k dst s h (asVal v) = RO C rd ops l k (s.put dst v) h := rfl
theorem ROe_new (dst : Option Tmp) (x : AObj) (mk : Nat → Value) (hf : freshAt (h.get h.next) = true) : ROe C rd ops l k dst s h (some (.new x mk)) = RO C rd ops l k (s.put dst (mk h.next)) (h.alloc x) := by
  simp only [ROe, hf]
theorem ROe_bind (dst : Option Tmp) (o : Option Value) : ROe C rd ops l k dst s h (obind o asVal) = ROv C rd ops l k dst s h o := by cases o <;> rfl
theorem ROv_some (dst : Option Tmp) (v : Value) : ROv C rd ops l k dst s h (some v) = RO C rd ops l k (s.put dst v) h := rfl
theorem ROh_some (dst : Option Tmp) : ROh C rd ops l k dst s (some h) = RO C rd ops l k (s.put dst undef) h := rfl
theorem ROq_some (dst : Option Tmp) (v : Value) : ROq C rd ops l k dst s (some (v, h)) = RO C rd ops l k (s.put dst v) h := rfl
theorem ROc_ret (dst : Option Tmp) (v : Value) (p : Option Value) : ROc C rd ops l k dst s (some (.ret v h p)) = RO C rd ops l k (s.put dst v) h := rfl
theorem ROc_panic (dst : Option Tmp) (v : Value) : ROc C rd ops l k dst s (some (.panic v h)) = some (.panic v, s, h) := rfl
variable {dst : Option Tmp} {ty : TypeId} {pos : String} {aft : Array Edge}
theorem RO_early (op : Op) (he : isEff op = false) : RO C rd ops (⟨dst, op, ty, pos, aft, none⟩ :: l) k s h = ROe C rd ops l k dst s h (earlyVal C (ev s.tmps) h op) := by
  rw [RO_cons]
  simp only [wantedA, doOp, he]
  cases earlyVal C (ev s.tmps) h op with
  | none => rfl
  | some e =>
    cases e with
    | val v => rfl
    | new x mk =>
      simp only [obind_some, putEV, ROe]
      cases freshAt (h.get h.next) <;> rfl
theorem RO_eff (op : Op) (he : isEff op = true) : RO C rd ops (⟨dst, op, ty, pos, aft, none⟩ :: l) k s h = ROr C rd ops l k (effOp C (Lim C) rd dst s h op) := by
  rw [RO_cons]
  simp only [wantedA, doOp, he]
theorem O_move (x : Operand) : RO C rd ops (⟨dst, .move x, ty, pos, aft, none⟩ :: l) k s h = RO C rd ops l k (s.put dst (ev s.tmps x)) h := RO_early _ rfl
theorem O_assign (x : Operand) : RO C rd ops (⟨dst, .assign x, ty, pos, aft, none⟩ :: l) k s h = RO C rd ops l k (s.put dst (ev s.tmps x)) h := RO_early _ rfl
theorem O_bin (op : BinOp) (t u : TypeId) (x y : Operand) : RO C rd ops (⟨dst, .binOp op t x y u, ty, pos, aft, none⟩ :: l) k s h = ROv C rd ops l k dst s h (aBin C op t (isConstO x || isConstO y) (ev s.tmps x) (ev s.tmps y)) := by
  rw [RO_early _ rfl, ← ROe_bind]; rfl
theorem O_un (op : UnOp) (t : TypeId) (x : Operand) : RO C rd ops (⟨dst, .unOp op t x, ty, pos, aft, none⟩ :: l) k s h = ROv C rd ops l k dst s h (aUn C.P op (ev s.tmps x)) := by
  rw [RO_early _ rfl, ← ROe_bind]; rfl
theorem O_pick (c a b : Operand) : RO C rd ops (⟨dst, .pick c a b, ty, pos, aft, none⟩ :: l) k s h = ROe C rd ops l k dst s h (aPick (ev s.tmps a) (ev s.tmps b) (ev s.tmps c)) := RO_early _ rfl
theorem O_alloc (t : TypeId) : RO C rd ops (⟨dst, .alloc t, ty, pos, aft, none⟩ :: l) k s h = ROe C rd ops l k dst s h (aAlloc C t) := RO_early _ rfl
theorem O_box (t : TypeId) (x : Operand) : RO C rd ops (⟨dst, .box t x, ty, pos, aft, none⟩ :: l) k s h = ROe C rd ops l k dst s h (aBox (ev s.tmps x)) := RO_early _ rfl
theorem O_build (t : TypeId) (p : Array (Nat × Operand)) : RO C rd ops (⟨dst, .build t p, ty, pos, aft, none⟩ :: l) k s h = ROv C rd ops l k dst s h (aBuild C t (partsOf (ev s.tmps) p)) := by
  rw [RO_early _ rfl, ← ROe_bind]; rfl
theorem O_buildSlice (t : TypeId) (n : Nat) (p : Array (Nat × Operand)) : RO C rd ops (⟨dst, .buildSlice t n p, ty, pos, aft, none⟩ :: l) k s h = ROe C rd ops l k dst s h (aBuildSlice C t n (partsOf (ev s.tmps) p)) := RO_early _ rfl
theorem O_load (t : TypeId) (a : Operand) : RO C rd ops (⟨dst, .load t a, ty, pos, aft, none⟩ :: l) k s h = ROv C rd ops l k dst s h (aLoad C t (ev s.tmps a) h) := by
  rw [RO_early _ rfl, ← ROe_bind]; rfl
theorem O_nilCheck (x : Operand) : RO C rd ops (⟨dst, .nilCheck x, ty, pos, aft, none⟩ :: l) k s h = ROe C rd ops l k dst s h (aNilCheck C (ev s.tmps x)) := RO_early _ rfl
theorem O_convert (a b : TypeId) (x : Operand) : RO C rd ops (⟨dst, .convert a b x, ty, pos, aft, none⟩ :: l) k s h = ROe C rd ops l k dst s h (aConvert C a b (ev s.tmps x) h) := RO_early _ rfl
theorem O_makeIface (t : TypeId) (x : Operand) : RO C rd ops (⟨dst, .makeInterface t x, ty, pos, aft, none⟩ :: l) k s h = ROe C rd ops l k dst s h (aMakeIface C t (ev s.tmps x)) := RO_early _ rfl
theorem O_makeFunc (fn : Fn) (a b : Array Operand) : RO C rd ops (⟨dst, .makeFunc fn a b, ty, pos, aft, none⟩ :: l) k s h = ROe C rd ops l k dst s h (aMakeFunc (ev s.tmps) fn a b) := RO_early _ rfl
theorem O_makeMap (t : TypeId) (r : Option Operand) : RO C rd ops (⟨dst, .makeMap t r, ty, pos, aft, none⟩ :: l) k s h = ROe C rd ops l k dst s h (aMakeMap r) := RO_early _ rfl
theorem O_makeSlice (t : TypeId) (a b : Operand) : RO C rd ops (⟨dst, .makeSlice t a b, ty, pos, aft, none⟩ :: l) k s h = ROe C rd ops l k dst s h (aMakeSlice C t (ev s.tmps a) (ev s.tmps b)) := RO_early _ rfl
theorem O_slice (t : TypeId) (x : Operand) (a b m : Option Operand) : RO C rd ops (⟨dst, .slice t x a b m, ty, pos, aft, none⟩ :: l) k s h = ROv C rd ops l k dst s h (aSlice C t (ev s.tmps x) (a.map (ev s.tmps)) (b.map (ev s.tmps)) (m.map (ev s.tmps))) := by
  rw [RO_early _ rfl, ← ROe_bind]; rfl
theorem O_fieldAddr (t : TypeId) (x : Operand) (i : Nat) : RO C rd ops (⟨dst, .fieldAddr t x i, ty, pos, aft, none⟩ :: l) k s h = ROe C rd ops l k dst s h (aFieldAddr C t (ev s.tmps x) i) := RO_early _ rfl
theorem O_field (t : TypeId) (x : Operand) (i : Nat) : RO C rd ops (⟨dst, .field t x i, ty, pos, aft, none⟩ :: l) k s h = ROe C rd ops l k dst s h (aField C t (ev s.tmps x) i) := RO_early _ rfl
theorem O_indexAddr (t : TypeId) (x i : Operand) : RO C rd ops (⟨dst, .indexAddr t x i, ty, pos, aft, none⟩ :: l) k s h = ROv C rd ops l k dst s h (aIndexAddr C t (ev s.tmps x) (ev s.tmps i)) := by
  rw [RO_early _ rfl, ← ROe_bind]; rfl
theorem O_index (t : TypeId) (x i : Operand) : RO C rd ops (⟨dst, .index t x i, ty, pos, aft, none⟩ :: l) k s h = ROv C rd ops l k dst s h (aIndex C t (ev s.tmps x) (ev s.tmps i)) := by
  rw [RO_early _ rfl, ← ROe_bind]; rfl
theorem O_lookup (t : TypeId) (m x : Operand) (ok : Bool) : RO C rd ops (⟨dst, .lookup t m x ok, ty, pos, aft, none⟩ :: l) k s h = ROv C rd ops l k dst s h (aLookup C t (ev s.tmps m) (ev s.tmps x) ok h) := by
  rw [RO_early _ rfl, ← ROe_bind]; rfl
theorem O_typeAssert (x : Operand) (u t : TypeId) (ok : Bool) : RO C rd ops (⟨dst, .typeAssert x u t ok, ty, pos, aft, none⟩ :: l) k s h = ROv C rd ops l k dst s h (aTypeAssert C (ev s.tmps x) t ok) := by
  rw [RO_early _ rfl, ← ROe_bind]; rfl
theorem O_extract (x : Operand) (i : Nat) : RO C rd ops (⟨dst, .extract x i, ty, pos, aft, none⟩ :: l) k s h = ROe C rd ops l k dst s h (aExtract (ev s.tmps x) i) := RO_early _ rfl
theorem O_len (t : TypeId) (ts : List TypeId) (x : Operand) (xs : List Operand) : RO C rd ops (⟨dst, .call ⟨.builtin .len, ⟨x :: xs⟩, ⟨t :: ts⟩⟩, ty, pos, aft, none⟩ :: l) k s h = ROv C rd ops l k dst s h (aLen C t (ev s.tmps x) h) := by
  rw [RO_early _ rfl, ← ROe_bind]; rfl
theorem O_min (ts : Array TypeId) (x : Operand) (xs : List Operand) : RO C rd ops (⟨dst, .call ⟨.builtin .min, ⟨x :: xs⟩, ts⟩, ty, pos, aft, none⟩ :: l) k s h = ROv C rd ops l k dst s h (foldV min2 (xs.map (ev s.tmps)) (ev s.tmps x)) := by
  rw [RO_early _ rfl, ← ROe_bind]; rfl
theorem O_max (ts : Array TypeId) (x : Operand) (xs : List Operand) : RO C rd ops (⟨dst, .call ⟨.builtin .max, ⟨x :: xs⟩, ts⟩, ty, pos, aft, none⟩ :: l) k s h = ROv C rd ops l k dst s h (foldV max2 (xs.map (ev s.tmps)) (ev s.tmps x)) := by
  rw [RO_early _ rfl, ← ROe_bind]; rfl
theorem ROr_heap (o : Option Heap) : ROr C rd ops l k (obind o (ofHeap s dst)) = ROh C rd ops l k dst s o := by cases o <;> rfl
theorem ROr_val (o : Option (Value × Heap)) : ROr C rd ops l k (obind o (ofVal s dst)) = ROq C rd ops l k dst s o := by cases o <;> rfl
theorem ROr_res (o : Option FRes) : ROr C rd ops l k (obind o (ofRes s dst)) = ROc C rd ops l k dst s o := by
  cases o with
  | none => rfl
  | some r => cases r <;> rfl
theorem O_store (t : TypeId) (a v : Operand) : RO C rd ops (⟨dst, .store t a v, ty, pos, aft, none⟩ :: l) k s h = ROh C rd ops l k dst s (aStore C t (ev s.tmps a) (ev s.tmps v) h) := by
  rw [RO_eff _ rfl, ← ROr_heap]; rfl
theorem O_mapUpdate (t : TypeId) (m x v : Operand) : RO C rd ops (⟨dst, .mapUpdate t m x v, ty, pos, aft, none⟩ :: l) k s h = ROh C rd ops l k dst s (aMapUpdate C t (ev s.tmps m) (ev s.tmps x) (ev s.tmps v) h) := by
  rw [RO_eff _ rfl, ← ROr_heap]; rfl
theorem O_insert (t : TypeId) (m x v : Operand) : RO C rd ops (⟨dst, .insert t m x v, ty, pos, aft, none⟩ :: l) k s h = ROh C rd ops l k dst s (aMapUpdate C t (ev s.tmps m) (ev s.tmps x) (ev s.tmps v) h) := by
  rw [RO_eff _ rfl, ← ROr_heap]; rfl
theorem O_next (i : Operand) : RO C rd ops (⟨dst, .next i true, ty, pos, aft, none⟩ :: l) k s h = ROq C rd ops l k dst s (aNext (ev s.tmps i) h) := by
  rw [RO_eff _ rfl, ← ROr_val]; rfl
theorem O_range (t : TypeId) (x : Operand) : RO C rd ops (⟨dst, .range t x, ty, pos, aft, none⟩ :: l) k s h = ROr C rd ops l k (rangeOp C t dst s h (ev s.tmps x)) := by
  rw [RO_eff _ rfl]; rfl
theorem O_append (ts : Array TypeId) (x y : Operand) (xs : List Operand) : RO C rd ops (⟨dst, .call ⟨.builtin .append, ⟨x :: y :: xs⟩, ts⟩, ty, pos, aft, none⟩ :: l) k s h = ROq C rd ops l k dst s (aAppend C ts.toList (ev s.tmps x) (ev s.tmps y) h) := by
  rw [RO_eff _ rfl, ← ROr_val]; rfl
theorem O_copy (ts : Array TypeId) (x y : Operand) (xs : List Operand) : RO C rd ops (⟨dst, .call ⟨.builtin .copy, ⟨x :: y :: xs⟩, ts⟩, ty, pos, aft, none⟩ :: l) k s h = ROq C rd ops l k dst s (aCopy C ts.toList (ev s.tmps x) (ev s.tmps y) h) := by
  rw [RO_eff _ rfl, ← ROr_val]; rfl
noncomputable def appV (C : Ctx) (v : Value) (args : List Value) (h : Heap) : Option FRes :=
  match v with
  | .func fn first cap => applyFn C (Lim C) fn cap.toList (first.toList ++ args) h
  | _ => none
theorem O_call (f : Operand) (xs : List Operand) (ts : Array TypeId) : RO C rd ops (⟨dst, .call ⟨.value f, ⟨xs⟩, ts⟩, ty, pos, aft, none⟩ :: l) k s h = ROc C rd ops l k dst s (appV C (ev s.tmps f) (xs.map (ev s.tmps)) h) := by
  rw [RO_eff _ rfl, ← ROr_res]
  show ROr C rd ops l k (callVal C (Lim C) dst (xs.map (ev s.tmps)) s h (ev s.tmps f)) = _
  cases ev s.tmps f <;> rfl
theorem O_invoke (f : Operand) (n : String) (xs : List Operand) (ts : Array TypeId) : RO C rd ops (⟨dst, .call ⟨.invoke f n, ⟨xs⟩, ts⟩, ty, pos, aft, none⟩ :: l) k s h = ROc C rd ops l k dst s (callM C (Lim C) (ev s.tmps f) n (xs.map (ev s.tmps)) h) := by
  rw [RO_eff _ rfl, ← ROr_res]; rfl
end
theorem V_func (C : Ctx) (f : FuncId) (args : List Value) (h : Heap) : appV C (.func (.func f) #[] #[]) args h = callF C (Lim C) f args h := by
  simp [appV, applyFn]
theorem V_clo (C : Ctx) (f : FuncId) (a b : List Value) (args : List Value) (h : Heap) : appV C (.func (.func f) ⟨a⟩ ⟨b⟩) args h = callF C (Lim C) f (a ++ args ++ b) h := by
  simp [appV, applyFn]
def upd (f : Nat → Value) (d : Nat) (v : Value) : Nat → Value := fun t => if t = d then v else f t
theorem upd_at (f : Nat → Value) (d : Nat) (v : Value) (t : Nat) : upd f d v t = if t = d then v else f t := rfl
noncomputable def T (n : Nat) (f : Nat → Value) : List (List Value) := mkTmps ((List.range n).map f)
theorem tget_T (n : Nat) (f : Nat → Value) (t : Nat) : tget (T n f) t = if t < n then f t else undef := by
  unfold T
  rw [tget_mk, List.getD_eq_getElem?_getD]
  by_cases h : t < n
  · simp [h]
  · rw [if_neg h, List.getElem?_eq_none (by simp; omega)]; rfl
theorem chunks_cons (f : Nat) (a : Value) (l : List Value) : chunks (f + 1) (a :: l) = (a :: l).take 8 :: chunks f ((a :: l).drop 8) := rfl
theorem chunks_nil (f : Nat) : chunks (f + 1) [] = [] := rfl
theorem tset_chunks : ∀ (f : Nat) (l : List Value) (d : Nat) (v : Value), l.length < f → tset (chunks f l) d v = chunks f (l.set d v)
  | 0, l, d, v, h => by omega
  | f + 1, [], d, v, h => by
    rw [List.set_nil, chunks_nil, tset_eq]; simp
  | f + 1, a :: l, d, v, h => by
    have hl : (a :: l).set d v ≠ [] := by cases d <;> simp
    obtain ⟨b, m, hm⟩ : ∃ b m, (a :: l).set d v = b :: m := by
      cases hx : (a :: l).set d v with
      | nil => exact absurd hx hl
      | cons b m => exact ⟨b, m, rfl⟩
    rw [hm, chunks_cons f b m, ← hm, chunks_cons, tset_eq]
    by_cases hd : d < 8
    · have h1 : d / 8 = 0 := by omega
      have h2 : d % 8 = d := by omega
      rw [h1, h2]
      simp only [List.set_cons_zero, List.getD_cons_zero]
      rw [List.take_set, List.drop_set_of_lt hd]
    · have ih := tset_chunks f ((a :: l).drop 8) (d - 8) v (by simp at h ⊢; omega)
      rw [tset_eq] at ih
      have h1 : d / 8 = (d - 8) / 8 + 1 := by omega
      have h2 : d % 8 = (d - 8) % 8 := by omega
      rw [h1, h2]
      simp only [List.set_cons_succ, List.getD_cons_succ]
      rw [ih]
      congr 1
      · rw [List.take_set_of_le (by omega)]
      · rw [List.drop_set, if_neg (by omega)]
theorem tset_T (n : Nat) (f : Nat → Value) (d : Nat) (v : Value) : tset (T n f) d v = T n (upd f d v) := by
  unfold T mkTmps
  rw [tset_chunks _ _ _ _ (by simp)]
  have : ((List.range n).map f).set d v = (List.range n).map (upd f d v) := by
    apply List.ext_getElem?
    intro i
    rw [List.getElem?_set]
    by_cases hi : i < n
    · by_cases hd : d = i
      · subst hd; simp [hi, upd]
      · rw [if_neg hd]; simp [hi, upd, show ¬ i = d from fun e => hd e.symm]
    · simp [hi]
      omega
  rw [this]
  simp
def argsFn (args : List Value) : Nat → Value := fun t => args.getD t undef
theorem mkTmps_T (args : List Value) (n : Nat) (h : args.length ≤ n) : mkTmps (args ++ List.replicate (n - args.length) undef) = T n (argsFn args) := by
  unfold T
  congr 1
  apply List.ext_getElem?
  intro i
  by_cases hi : i < n
  · simp only [List.getElem?_map, List.getElem?_range hi, Option.map_some, argsFn, List.getD_eq_getElem?_getD]
    by_cases ha : i < args.length
    · rw [List.getElem?_append_left ha, List.getElem?_eq_getElem ha]; rfl
    · rw [List.getElem?_append_right (by omega), List.getElem?_replicate, if_pos (by omega), List.getElem?_eq_none (by omega)]; rfl
  · rw [List.getElem?_eq_none (by simp; omega), List.getElem?_eq_none (by simp; omega)]
theorem P_some (n : Nat) (f : Nat → Value) (D : List Deferred) (p : Option Value) (d : Tmp) (v : Value) : FrS.put ⟨T n f, D, p⟩ (some d) v = ⟨T n (upd f d v), D, p⟩ := by
  show FrS.mk (tset (T n f) d v) D p = _
  rw [tset_T]
theorem P_none (s : FrS) (v : Value) : FrS.put s none v = s := rfl
theorem ev_tmp (n : Nat) (f : Nat → Value) (t : Tmp) : ev (T n f) (.tmp t) = if t < n then f t else undef := tget_T n f t
theorem ev_const (τ : List (List Value)) (v : Value) : ev τ (.const v) = v := rfl
theorem ev_global (τ : List (List Value)) (g : Nat) : ev τ (.global g) = .pointer (some ⟨g + 1, 0, none⟩) := rfl
theorem ev_func (τ : List (List Value)) (f : FuncId) : ev τ (.func f) = .func (.func f) #[] #[] := rfl
noncomputable def finish (C : Ctx) (rs : List ResultVar) (x : Fin) : Option FRes :=
  obind x fun r => obind (endMode r.1) fun m => obind (runDefers C (Lim C) r.2.1.defers m r.2.2) fun q => match q.1 with
    | some v => some (.panic v q.2)
    | none => obind (readResults C r.2.1.tmps q.2 rs) fun vs => some (.ret (packResults vs) q.2 r.2.1.pan)
theorem callF_go {C : Ctx} {f : FuncId} {fn : Func} {c : Code} (args : List Value) (h : Heap) (hA : C.A f = none) (hF : C.F.get f = some fn) (hb : fn.body = some c) (hn : args.length ≤ fn.ntmps) :
    callF C (Lim C) f args h = finish C fn.results.toList (Lim C none [.code c] ⟨T fn.ntmps (argsFn args), [], none⟩ h) := by
  unfold callF
  rw [hA, hF]
  simp only [obind_some, callBody, bodyOf, hb, mkTmps_T args fn.ntmps hn, finish, endCall]
  rfl
def CW (C : Ctx) (f : FuncId) (args : List Value) (h : Heap) (Q : Value → Heap → Prop) : Prop := ∃ v h', callF C (Lim C) f args h = some (.ret v h' none) ∧ Q v h'
theorem CW_of {C : Ctx} {f : FuncId} {fn : Func} {c : Code} {args : List Value} {h : Heap} {Q : Value → Heap → Prop} (hA : C.A f = none) (hF : C.F.get f = some fn) (hb : fn.body = some c) (hn : args.length ≤ fn.ntmps)
    (hw : W (Lim C none [.code c] ⟨T fn.ntmps (argsFn args), [], none⟩ h) fun r s h' => (r = .ended none ∨ r = .ended (some .ret)) ∧ s.defers = [] ∧ s.pan = none ∧ ∃ vs, readResults C s.tmps h' fn.results.toList = some vs ∧ Q (packResults vs) h') : CW C f args h Q := by
  obtain ⟨r, s, h', e, hr, hd, hp, vs, hvs, hQ⟩ := hw
  refine ⟨packResults vs, h', ?_, hQ⟩
  rw [callF_go args h hA hF hb hn, e]
  have hm : endMode r = some none := by rcases hr with rfl | rfl <;> rfl
  simp only [finish, obind_some, hm, hd]
  show obind (some ((none : Option Value), h')) _ = _
  simp only [obind_some, hvs, hp]
theorem CW.eq {C : Ctx} {f : FuncId} {args : List Value} {h h1 : Heap} {v : Value} (hc : CW C f args h fun v' h' => v' = v ∧ h' = h1) : callF C (Lim C) f args h = some (.ret v h1 none) := by
  obtain ⟨v', h', e, rfl, rfl⟩ := hc; exact e
theorem W_call {C : Ctx} {rd : Option Nat} {ops l : List Oper} {k : List Item} {dst : Option Tmp} {s : FrS} {h : Heap} {Q : FEnd → FrS → Heap → Prop} {f : FuncId} {args : List Value} {P : Value → Heap → Prop}
    (hc : CW C f args h P) (hw : ∀ v h', P v h' → W (RO C rd ops l k (s.put dst v) h') Q) : W (ROc C rd ops l k dst s (callF C (Lim C) f args h)) Q := by
  obtain ⟨v, h', e, hp⟩ := hc
  rw [e, ROc_ret]
  exact hw v h' hp
theorem W_loop {C : Ctx} {rd : Option Nat} {body : Code} {k : List Item} {n : Nat} {f : Nat → Value} {D : List Deferred} {p : Option Value} {h : Heap} {Q : FEnd → FrS → Heap → Prop} (m : Nat) (I : Nat → (Nat → Value) → Heap → Prop)
    (h0 : I m f h) (hs : ∀ m f h, I m f h → (∀ m' f' h', m' < m → I m' f' h' → W (Lim C rd (.inLoop body :: k) ⟨T n f', D, p⟩ h') Q) → W (Lim C rd (.code body :: .inLoop body :: k) ⟨T n f, D, p⟩ h) Q) :
    W (Lim C rd (.inLoop body :: k) ⟨T n f, D, p⟩ h) Q := by
  induction m using Nat.strongRecOn generalizing f h with
  | _ m ih =>
    rw [L_inLoop]
    exact hs m f h h0 fun m' f' h' hlt hI => ih m' hlt hI
end Go.Am

namespace Go.Am
open Go
section
variable (C : Ctx) (t : TypeId) (c : Bool) (k : IntKind) (a b : Int)
theorem I_add : aBin C .add t c (.int k a) (.int k b) = some (.int k (k.wrap (a + b))) := by simp [aBin, aBinInts, aBinInt, mkInt]
theorem I_sub : aBin C .sub t c (.int k a) (.int k b) = some (.int k (k.wrap (a - b))) := by simp [aBin, aBinInts, aBinInt, mkInt]
theorem I_mul : aBin C .mul t c (.int k a) (.int k b) = some (.int k (k.wrap (a * b))) := by simp [aBin, aBinInts, aBinInt, mkInt]
theorem I_quo (hb : b ≠ 0) : aBin C .quo t c (.int k a) (.int k b) = some (.int k (k.wrap (a.tdiv b))) := by simp [aBin, aBinInts, aBinInt, mkInt, aQuo, hb]
theorem I_rem (hb : b ≠ 0) : aBin C .rem t c (.int k a) (.int k b) = some (.int k (a.tmod b)) := by simp [aBin, aBinInts, aBinInt, aRem, hb]
theorem I_eql : aBin C .eql t c (.int k a) (.int k b) = some (.bool (a == b)) := by simp [aBin, aBinInts, aBinInt]
theorem I_neq : aBin C .neq t c (.int k a) (.int k b) = some (.bool (a != b)) := by simp [aBin, aBinInts, aBinInt]
theorem I_lss : aBin C .lss t c (.int k a) (.int k b) = some (.bool (decide (a < b))) := by simp [aBin, aBinInts, aBinInt]
theorem I_leq : aBin C .leq t c (.int k a) (.int k b) = some (.bool (decide (a ≤ b))) := by simp [aBin, aBinInts, aBinInt]
theorem I_gtr : aBin C .gtr t c (.int k a) (.int k b) = some (.bool (decide (a > b))) := by simp [aBin, aBinInts, aBinInt]
theorem I_geq : aBin C .geq t c (.int k a) (.int k b) = some (.bool (decide (a ≥ b))) := by simp [aBin, aBinInts, aBinInt]
theorem S_eql (x y : ByteArray) : aBin C .eql t c (.string x) (.string y) = some (.bool (strEq x y)) := by simp [aBin, aBinStr]
theorem S_neq (x y : ByteArray) : aBin C .neq t c (.string x) (.string y) = some (.bool (!(strEq x y))) := by simp [aBin, aBinStr]
end
theorem U_not (P : Program) (b : Bool) : aUn P .not (.bool b) = some (.bool (!b)) := rfl
theorem U_neg (P : Program) (k : IntKind) (n : Int) : aUn P .neg (.int k n) = some (.int k (k.wrap (0 - n))) := rfl
theorem wrap64 {n : Int} (h1 : -9223372036854775808 ≤ n) (h2 : n < 9223372036854775808) : IntKind.i64.wrap n = n := by
  show (if (true && decide (n % 18446744073709551616 ≥ 9223372036854775808)) = true then n % 18446744073709551616 - 18446744073709551616 else n % 18446744073709551616) = n
  simp only [Bool.true_and, decide_eq_true_eq]
  split <;> omega
def HOK (h : Heap) : Prop := ∀ i, h.next ≤ i → h.get i = none
theorem HOK.alloc {h : Heap} (hk : HOK h) (x : AObj) : HOK (h.alloc x) := by
  intro i hi
  simp at hi
  rw [Heap.get_alloc_ne _ _ (by omega)]
  exact hk i (by omega)
theorem get_old {h : Heap} {i : Nat} (x : AObj) (hi : i < h.next) : (h.alloc x).get i = h.get i := Heap.get_alloc_ne _ _ (by omega)
theorem rowAt_old {h : Heap} {i : Nat} (x : AObj) (hi : i < h.next) : rowAt (h.alloc x) i = rowAt h i := by unfold rowAt; rw [get_old x hi]
theorem rowAt_new (h : Heap) (l : List Value) (s : Nat) (b : Bool) : rowAt (h.alloc (.row l s b)) h.next = some l := by unfold rowAt; rw [Heap.get_alloc_self]; rfl
theorem row_lt {h : Heap} (hk : HOK h) {i : Nat} {l : List Value} (hr : rowAt h i = some l) : i < h.next := by
  rcases Nat.lt_or_ge i h.next with q | q
  · exact q
  · unfold rowAt at hr; rw [hk i q] at hr; simp at hr
section
variable (C : Ctx) (t : TypeId) (b o : Nat) (sp : Option Nat) (h : Heap)
theorem M_load : aLoad C t (.pointer (some ⟨b, o, sp⟩)) h = obind (rowAt h b) fun cells => partOf C t cells o := rfl
theorem M_len_slice (p : Option Addr) (n m : Nat) (e : TypeId) (hu : C.und t = some (.slice e)) : aLen C t (.slice p n m) h = some (.int .i64 n) := by simp [aLen, hu, lenIn]
end
theorem part_one {C : Ctx} {t : TypeId} {d : TypeDesc} (hu : C.und t = some d) (ha : aggDesc d = false) (cells : List Value) (o : Nat) : partOf C t cells o = cells[o]? := by
  unfold partOf; rw [hu]; simp only [obind_some, ha]; exact lget_eq _ _
theorem part_agg {C : Ctx} {t : TypeId} {d : TypeDesc} {n : Nat} (hu : C.und t = some d) (ha : aggDesc d = true) (hs : C.size t = some n) (cells : List Value) (o : Nat) : partOf C t cells o = obind (take? cells o n) fun l => some (mkAgg l) := by
  unfold partOf; rw [hu]; simp only [obind_some, ha, hs]
theorem take?_some {cells : List Value} {o n : Nat} (h : o + n ≤ cells.length) : take? cells o n = some ((cells.drop o).take n) := by
  unfold take?
  have : ((cells.drop o).take n).length = n := by simp; omega
  rw [this, Nat.beq_refl]
theorem fieldAddr_at {C : Ctx} {t u : TypeId} {i o z : Nat} (hf : C.fieldAt t i = some (o, u, z)) (hz : Nat.beq z 0 = false) (b p : Nat) (sp : Option Nat) : aFieldAddr C t (.pointer (some ⟨b, p, sp⟩)) i = some (.val (.pointer (some ⟨b, p + o, none⟩))) := by
  unfold aFieldAddr; rw [hf]; simp only [obind_some, ptrOf, hz, Bool.not_false, guardB_true]; rfl
theorem indexAddr_at {C : Ctx} {t e : TypeId} {n : Nat} (hu : C.und t = some (.slice e)) (hs : C.size e = some n) (a : Addr) (len cap : Nat) (k : IntKind) (i : Nat) (hi : i < len) : aIndexAddr C t (.slice (some a) len cap) (.int k i) = some (.pointer (some ⟨a.block, a.off + i * n, none⟩)) := by
  unfold aIndexAddr; rw [hu]
  simp only [intOfV, obind_some, indexAddrIn, natBelow]
  have : Nat.ble (i + 1) len = true := Nat.ble_eq_true_of_le hi
  show obind (guardB (Nat.ble (i + 1) len) (some i)) _ = _
  rw [this]; simp only [guardB_true, obind_some, hs, addrAt]
end Go.Am
