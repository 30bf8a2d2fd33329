/- Parts Am35, Am36 of the abstract machine over this program, joined: what each part says stands at its head. -/
import Derived.Test.YtlflfbnnjlkkcaaGreatJAm32
set_option linter.unusedSimpArgs false
set_option linter.unusedVariables false
set_option linter.defProp false
namespace Go.Am
open Go
structure Fr (h h' : Heap) : Prop where
  ok : HOK h'
  next : h.next ≤ h'.next
  get : ∀ i, i < h.next → h'.get i = h.get i
theorem Fr.refl {h : Heap} (hk : HOK h) : Fr h h := ⟨hk, Nat.le_refl _, fun _ _ => rfl⟩
theorem Fr.trans {a b c : Heap} (h : Fr a b) (h' : Fr b c) : Fr a c := ⟨h'.ok, Nat.le_trans h.next h'.next, fun i hi => (h'.get i (Nat.lt_of_lt_of_le hi h.next)).trans (h.get i hi)⟩
theorem Fr.alloc {h0 h : Heap} (f : Fr h0 h) (x : AObj) : Fr h0 (h.alloc x) :=
  ⟨f.ok.alloc x, by have := f.next; simp; omega, fun i hi => by rw [Heap.get_alloc_ne _ _ (by have := f.next; omega)]; exact f.get i hi⟩
theorem HOK.set {h : Heap} (hk : HOK h) {i : Nat} (hi : i < h.next) (x : AObj) : HOK (h.set i x) := by
  intro j hj
  simp at hj
  rw [Heap.get_set_ne _ _ (by omega)]
  exact hk j hj
theorem Fr.set {h0 h : Heap} (f : Fr h0 h) {i : Nat} (h1 : h0.next ≤ i) (h2 : i < h.next) (x : AObj) : Fr h0 (h.set i x) :=
  ⟨f.ok.set h2 x, by simpa using f.next, fun j hj => by rw [Heap.get_set_ne _ _ (by omega)]; exact f.get j hj⟩
theorem Fr.row {h h' : Heap} (f : Fr h h') {i : Nat} (hi : i < h.next) : rowAt h' i = rowAt h i := by unfold rowAt; rw [f.get i hi]
theorem Fr.row' {h h' : Heap} (f : Fr h h') (hk : HOK h) {i : Nat} {l : List Value} (hr : rowAt h i = some l) : rowAt h' i = some l := by rw [f.row (row_lt hk hr)]; exact hr
theorem get_lt {h : Heap} (hk : HOK h) {i : Nat} {x : AObj} (hr : h.get i = some x) : i < h.next := by
  rcases Nat.lt_or_ge i h.next with q | q
  · exact q
  · rw [hk i q] at hr; simp at hr
theorem Fr.get' {h h' : Heap} (f : Fr h h') (hk : HOK h) {i : Nat} {x : AObj} (hr : h.get i = some x) : h'.get i = some x := by rw [f.get i (get_lt hk hr)]; exact hr
def SL (N : Nat) (h : Heap) (v : Value) (l : List Value) (s n : Nat) : Prop :=
  (v = .slice none 0 0 ∧ l = [] ∧ n = 0) ∨ ∃ b, v = .slice (some ⟨b, 0, some s⟩) n n ∧ b ≠ 0 ∧ N ≤ b ∧ h.get b = some (.row l s true) ∧ l.length = n * s
theorem SL.nil (N : Nat) (h : Heap) (s : Nat) : SL N h (.slice none 0 0) [] s 0 := .inl ⟨rfl, rfl, rfl⟩
theorem SL.len {N : Nat} {h : Heap} {v : Value} {l : List Value} {s n : Nat} (q : SL N h v l s n) : l.length = n * s := by
  rcases q with ⟨_, rfl, rfl⟩ | ⟨_, _, _, _, _, h1⟩
  · simp
  · exact h1
theorem SL.new {N : Nat} {h : Heap} (hN : N ≤ h.next) (hp : 0 < h.next) (l : List Value) (s n : Nat) (hl : l.length = n * s) : SL N (h.alloc (.row l s true)) (sliceTo s n n h.next) l s n :=
  .inr ⟨h.next, rfl, by omega, hN, by simp, hl⟩
def blkOf : Value → Option Nat
  | .slice (some a) _ _ => some a.block
  | _ => none
theorem SL.blk_lt {N : Nat} {h : Heap} {v : Value} {l : List Value} {s n b : Nat} (q : SL N h v l s n) (hk : HOK h) (hb : blkOf v = some b) : N ≤ b ∧ b < h.next := by
  rcases q with ⟨rfl, _, _⟩ | ⟨b', rfl, _, h1, h2, _⟩
  · simp [blkOf] at hb
  · simp [blkOf] at hb; subst hb; exact ⟨h1, get_lt hk h2⟩
theorem SL.keep {N : Nat} {h h' : Heap} {v : Value} {l : List Value} {s n : Nat} (q : SL N h v l s n) (hg : ∀ b, blkOf v = some b → h'.get b = h.get b) : SL N h' v l s n := by
  rcases q with q | ⟨b, rfl, h1, h2, h3, h4⟩
  · exact .inl q
  · exact .inr ⟨b, rfl, h1, h2, by rw [hg b rfl]; exact h3, h4⟩
theorem SL.fr {N : Nat} {h h' : Heap} {v : Value} {l : List Value} {s n : Nat} (q : SL N h v l s n) (hk : HOK h) (f : Fr h h') : SL N h' v l s n :=
  q.keep fun b hb => f.get b (q.blk_lt hk hb).2
theorem SL.value {N : Nat} {h : Heap} {v : Value} {l : List Value} {s n : Nat} (q : SL N h v l s n) : ∃ p c, v = .slice p n c := by
  rcases q with ⟨rfl, _, rfl⟩ | ⟨b, rfl, _⟩ <;> exact ⟨_, _, rfl⟩
structure AppT (C : Ctx) (t u : TypeId) (s : Nat) : Prop where
  ex : ∃ e i du, C.und t = some (.slice e) ∧ C.T.get e = some i ∧ i.size = s ∧ i.bytes ≤ 1024 ∧ C.und u = some du ∧ listy du = true ∧ zeroFits i.size (C.zero e) = true
theorem append_at {C : Ctx} {t u : TypeId} {ts : List TypeId} {s : Nat} (ht : AppT C t u s) {h0 h : Heap} {v x : Value} {l new : List Value} {n m : Nat} (f : Fr h0 h) (hp : 0 < h.next) (q : SL h0.next h v l s n)
    (hx : lenOfV x = some (m + 1)) (hc : sliceCells h s (m + 1) x = some new) (h1 : allOne new = true) (hl : new.length = (m + 1) * s) (hn : n + (m + 1) ≤ 4294967296) :
    ∃ h', aAppend C (t :: u :: ts) v x h = some (sliceTo s (n + (m + 1)) (n + (m + 1)) h.next, h') ∧ SL h0.next h' (sliceTo s (n + (m + 1)) (n + (m + 1)) h.next) (l ++ new) s (n + (m + 1)) ∧ Fr h0 h' ∧ h'.next = h.next + 1 ∧ ∀ i, i < h.next → blkOf v ≠ some i → h'.get i = h.get i := by
  obtain ⟨e, i, du, e1, e2, e3, e4, e5, e6, e7⟩ := ht.ex
  have hN : h0.next ≤ h.next := f.next
  have hlen : l.length = n * s := q.len
  have b1 : (Nat.ble ((n + (m + 1)) * i.bytes) 35184372088832 && Nat.ble (n + (m + 1)) 35184372088832) = true := by
    have : (n + (m + 1)) * i.bytes ≤ 4294967296 * 1024 := Nat.mul_le_mul hn e4
    rw [Bool.and_eq_true]
    exact ⟨Nat.ble_eq_true_of_le (by omega), Nat.ble_eq_true_of_le (by omega)⟩
  have fin : ∀ {p : Option Addr} {c : Nat} {h' : Heap}, v = .slice p n c → nilOk p n c = true → growTo h i.size n new p = some h' → aAppend C (t :: u :: ts) v x h = some (sliceTo s (n + (m + 1)) (n + (m + 1)) h.next, h') := by
    intro p c h' ev hnil hg
    have ez : zeroFits s (C.zero e) = true := by rw [← e3]; exact e7
    rw [e3] at hg
    have b2 : Nat.beq new.length ((m + 1) * s) = true := by rw [hl]; exact Nat.beq_refl _
    simp only [aAppend, e1, e2, e5, obind_some, sliceElem, e6, e3, ez, Bool.and_self, guardB_true, ev, sliceOf, hx, appendAt, hnil, b1, hc, h1, b2, hg]
  have put : ∀ h1 : Heap, Fr h0 h1 → h1.next = h.next → (∀ i, i < h.next → blkOf v ≠ some i → h1.get i = h.get i) →
      SL h0.next (h1.alloc (.row (l ++ new) s true)) (sliceTo s (n + (m + 1)) (n + (m + 1)) h.next) (l ++ new) s (n + (m + 1)) ∧ Fr h0 (h1.alloc (.row (l ++ new) s true)) ∧ (h1.alloc (.row (l ++ new) s true)).next = h.next + 1 ∧ ∀ i, i < h.next → blkOf v ≠ some i → (h1.alloc (.row (l ++ new) s true)).get i = h.get i := by
    intro h1 f1 hn1 hg1
    refine ⟨?_, f1.alloc _, by simp [hn1], fun i hi hb => ?_⟩
    · rw [← hn1]
      refine SL.new (by omega) (by omega) _ _ _ ?_
      rw [List.length_append, hlen, hl, ← Nat.add_mul]
    · rw [Heap.get_alloc_ne _ _ (by omega)]; exact hg1 i hi hb
  rcases q with ⟨rfl, rfl, rfl⟩ | ⟨b, rfl, hb0, hbN, hb, _⟩
  · have := put h f rfl (fun _ _ _ => rfl)
    exact ⟨h.alloc (.row ([] ++ new) s true), fin rfl rfl (by rw [e3]; rfl), this⟩
  · have hbl : b < h.next := get_lt f.ok hb
    have := put (h.set b .dead) (f.set hbN hbl _) (by simp) (fun i hi hne => Heap.get_set_ne _ _ (fun e => hne (by simp [blkOf, e])))
    refine ⟨_, fin rfl rfl ?_, this⟩
    cases b with
    | zero => exact absurd rfl hb0
    | succ b =>
      simp only [growTo, spotIs, e3, Nat.beq_refl, guardB_true, growRow, hb, obind_some, ownRowOf]
      have : take? l 0 (n * s) = some l := by
        rw [take?_some (by omega), List.drop_zero, List.take_of_length_le (by omega)]
      rw [this]
      rfl
end Go.Am

namespace Go.Am
open Go
section
variable {C : Ctx} {rd : Option Nat} {ops l : List Oper} {k : List Item} {s : FrS} {h : Heap}
noncomputable def ROg (C : Ctx) (rd : Option Nat) (ops l : List Oper) (k : List Item) (s : FrS) (h : Heap) (o : Oper) : Bool → Fin
  | true => RO C rd ops (o :: l) k s h
  | false => RO C rd ops l k (s.put o.dst undef) h
theorem G_true (o : Oper) : ROg C rd ops l k s h o true = RO C rd ops (o :: l) k s h := rfl
theorem G_false (dst : Option Tmp) (op : Op) (ty : TypeId) (pos : String) (aft : Array Edge) (g : Option (Nat × Bool)) : ROg C rd ops l k s h ⟨dst, op, ty, pos, aft, g⟩ false = RO C rd ops l k (s.put dst undef) h := rfl
theorem O_guard (dst : Option Tmp) (op : Op) (ty : TypeId) (pos : String) (aft : Array Edge) (j : Nat) (w : Bool) :
    RO C rd ops (⟨dst, op, ty, pos, aft, some (j, w)⟩ :: l) k s h = ROg C rd ops l k s h ⟨dst, op, ty, pos, aft, none⟩ (wantedBy ops s.tmps j w) := by
  rw [RO_cons]
  have e : wantedA ops ⟨dst, op, ty, pos, aft, some (j, w)⟩ s.tmps = wantedBy ops s.tmps j w := rfl
  rw [e]
  cases hw : wantedBy ops s.tmps j w with
  | false => rfl
  | true =>
    rw [G_true, RO_cons]
    rfl
noncomputable def wb (n : Nat) (f : Nat → Value) (w : Bool) : Option Oper → Bool
  | some ⟨some t, _, _, _, _, _⟩ => boolIs w (if t < n then f t else undef)
  | _ => false
theorem wb_some (n : Nat) (f : Nat → Value) (w : Bool) (t : Tmp) (op : Op) (ty : TypeId) (pos : String) (aft : Array Edge) (g : Option (Nat × Bool)) : wb n f w (some ⟨some t, op, ty, pos, aft, g⟩) = boolIs w (if t < n then f t else undef) := rfl
theorem wantedBy_T (n : Nat) (f : Nat → Value) (j : Nat) (w : Bool) : wantedBy ops (T n f) j w = wb n f w (ops[j]?) := by
  unfold wantedBy
  rw [lget_eq]
  cases hj : ops[j]? with
  | none => rfl
  | some o =>
    obtain ⟨d, op, ty, pos, aft, g⟩ := o
    cases d with
    | none => rfl
    | some t => simp only [obind_some, tget_T]; rfl
theorem boolIs_bool (w b : Bool) : boolIs w (.bool b) = (b == w) := rfl
noncomputable def RP (C : Ctx) (rd : Option Nat) (ops : List Oper) (pl : List PE) (k : List Item) (rs : List Rec) (s : FrS) (h : Heap) : Fin := obind (runPlan C (Lim C) rd ops pl rs s h) (afterOps (Lim C) rd k)
def planBy (ops : List Oper) : List (Bool × Nat) → List PE
  | [] => []
  | (b, i) :: q => match ops[i]? with
    | some o => (if b then .ex i o else .re i o) :: planBy ops q
    | none => planBy ops q
theorem L_draw {id : Nat} {o : Array Oper} (q : List (Bool × Nat)) (hq : planOf o.toList = planBy o.toList q) : Lim C rd (.code (.region id o true) :: k) s h = RP C rd o.toList (planBy o.toList q) k [] s h := by
  rw [Lim_eq, ← hq]; rfl
def strip (o : Oper) : Oper := ⟨o.dst, o.op, 0, "", #[], o.guard⟩
def strips (l : List Oper) : List Oper := l.map strip
theorem strips_cons (dst : Option Tmp) (op : Op) (ty : TypeId) (pos : String) (aft : Array Edge) (g : Option (Nat × Bool)) (l : List Oper) : strips (⟨dst, op, ty, pos, aft, g⟩ :: l) = ⟨dst, op, 0, "", #[], g⟩ :: strips l := rfl
theorem strips_nil : strips [] = [] := rfl
theorem wanted_strip (o : Oper) (τ : List (List Value)) : wantedA (strips ops) (strip o) τ = wantedA ops o τ := by
  unfold wantedA strip
  simp only
  cases o.guard with
  | none => rfl
  | some q =>
    simp only
    unfold wantedBy
    rw [lget_eq, lget_eq, strips, List.getElem?_map]
    cases ops[q.1]? <;> rfl
theorem RO_strip : RO C rd ops l k s h = RO C rd (strips ops) (strips l) k s h := by
  unfold RO
  congr 1
  induction l generalizing s h with
  | nil => rfl
  | cons o l ih =>
    show runOp C (Lim C) rd ops o (runOps C (Lim C) rd ops l) s h = runOp C (Lim C) rd (strips ops) (strip o) (runOps C (Lim C) rd (strips ops) (strips l)) s h
    unfold runOp
    rw [wanted_strip]
    have e : runOps C (Lim C) rd ops l = runOps C (Lim C) rd (strips ops) (strips l) := by funext s h; exact ih
    rw [e]
    rfl
theorem L_region' (id : Nat) (o : Array Oper) : Lim C rd (.code (.region id o false) :: k) s h = RO C rd (strips o.toList) (strips o.toList) k s h := by rw [L_region, RO_strip]
def stripPE : PE → PE
  | .ex i o => .ex i (strip o)
  | .re i o => .re i (strip o)
theorem planBy_strip (q : List (Bool × Nat)) : (planBy ops q).map stripPE = planBy (strips ops) q := by
  induction q with
  | nil => rfl
  | cons e q ih =>
    obtain ⟨b, i⟩ := e
    unfold planBy strips
    rw [List.getElem?_map]
    cases ops[i]? with
    | none => exact ih
    | some o => cases b <;> exact congrArg (List.cons _) ih
theorem RP_strip (pl : List PE) (rs : List Rec) : RP C rd ops pl k rs s h = RP C rd (strips ops) (pl.map stripPE) k rs s h := by
  unfold RP
  congr 1
  induction pl generalizing rs s h with
  | nil => rfl
  | cons e pl ih =>
    rw [runPlan_cons, List.map_cons, runPlan_cons]
    have e' : runPlan C (Lim C) rd ops pl = runPlan C (Lim C) rd (strips ops) (pl.map stripPE) := by funext rs s h; exact ih rs
    rw [e']
    cases e with
    | ex i o =>
      show (match wantedA ops o s.tmps with | true => exOp C (Lim C) rd i o _ rs s h | false => _) = (match wantedA (strips ops) (strip o) s.tmps with | true => exOp C (Lim C) rd i (strip o) _ rs s h | false => _)
      rw [wanted_strip]
      rfl
    | re i o => rfl
theorem L_draw' {id : Nat} {o : Array Oper} (q : List (Bool × Nat)) (hq : planOf o.toList = planBy o.toList q) : Lim C rd (.code (.region id o true) :: k) s h = RP C rd (strips o.toList) (planBy (strips o.toList) q) k [] s h := by
  rw [L_draw q hq, RP_strip, planBy_strip]
theorem RP_nil (rs : List Rec) : RP C rd ops [] k rs s h = Lim C rd k s h := rfl
noncomputable def bareEnd (v : Value) (s : FrS) (h : Heap) : List Deferred → Fin
  | [] => some (.panic v, s, h)
  | _ :: _ => none
theorem bareEnd_eq (v : Value) (s : FrS) (h : Heap) (l : List Deferred) : obind (ifBare (.panic v s h) l) (afterOps (Lim C) rd k) = bareEnd v s h l := by cases l <;> rfl
noncomputable def RPr (C : Ctx) (rd : Option Nat) (ops : List Oper) (pl : List PE) (k : List Item) (rs : List Rec) : Option ORes → Fin
  | some (.ok s h) => RP C rd ops pl k rs s h
  | some (.panic v s h) => bareEnd v s h s.defers
  | none => none
noncomputable def RPe (C : Ctx) (rd : Option Nat) (ops : List Oper) (pl : List PE) (k : List Item) (rs : List Rec) (i : Nat) (dst : Option Tmp) (s : FrS) (h : Heap) : Option EV → Fin
  | some (.val v) => RP C rd ops pl k (.val i s.tmps v :: rs) (s.put dst v) h
  | some (.new x mk) => match freshAt (h.get h.next) with
    | true => RP C rd ops pl k (.new i h.next x :: rs) (s.put dst (mk h.next)) (h.alloc x)
    | false => none
  | none => none
noncomputable def RPg (C : Ctx) (rd : Option Nat) (ops : List Oper) (pl : List PE) (k : List Item) (rs : List Rec) (s : FrS) (h : Heap) : Bool → Fin
  | true => RP C rd ops pl k rs s h
  | false => none
noncomputable def RPw (C : Ctx) (rd : Option Nat) (ops : List Oper) (pl : List PE) (k : List Item) (rs : List Rec) (s : FrS) (h : Heap) (i : Nat) (o : Oper) : Bool → Fin
  | true => match isEff o.op with
    | true => RPr C rd ops pl k rs (effOp C (Lim C) rd o.dst s h o.op)
    | false => RPe C rd ops pl k rs i o.dst s h (earlyVal C (ev s.tmps) h o.op)
  | false => RP C rd ops pl k rs (s.put o.dst undef) h
theorem RP_ex (pl : List PE) (i : Nat) (o : Oper) (rs : List Rec) : RP C rd ops (.ex i o :: pl) k rs s h = RPw C rd ops pl k rs s h i o (wantedA ops o s.tmps) := by
  unfold RP
  rw [runPlan_cons]
  show obind (match wantedA ops o s.tmps with | true => exOp C (Lim C) rd i o (runPlan C (Lim C) rd ops pl) rs s h | false => runPlan C (Lim C) rd ops pl rs (s.put o.dst undef) h) (afterOps (Lim C) rd k) = _
  cases wantedA ops o s.tmps with
  | false => rfl
  | true =>
    unfold RPw exOp
    cases isEff o.op with
    | true =>
      simp only
      cases effOp C (Lim C) rd o.dst s h o.op with
      | none => rfl
      | some r =>
        cases r with
        | ok s h => rfl
        | panic v s h => exact bareEnd_eq _ _ _ _
    | false =>
      simp only
      cases earlyVal C (ev s.tmps) h o.op with
      | none => rfl
      | some e =>
        cases e with
        | val v => rfl
        | new x mk =>
          simp only [obind_some, exEarly, putEV, RPe]
          cases freshAt (h.get h.next) <;> rfl
theorem RP_re (pl : List PE) (i : Nat) (o : Oper) (rs : List Rec) : RP C rd ops (.re i o :: pl) k rs s h = RPg C rd ops pl k rs s h (recheckR C o.op h (findRec i rs)) := by
  unfold RP
  rw [runPlan_cons]
  show obind (guardB (recheckR C o.op h (findRec i rs)) (runPlan C (Lim C) rd ops pl rs s h)) (afterOps (Lim C) rd k) = _
  cases recheckR C o.op h (findRec i rs) <;> rfl
theorem RPg_true (pl : List PE) (rs : List Rec) : RPg C rd ops pl k rs s h true = RP C rd ops pl k rs s h := rfl
variable {pl : List PE} {rs : List Rec} {i : Nat} {dst : Option Tmp} {ty : TypeId} {pos : String} {aft : Array Edge}
theorem w_true (o : Oper) : RPw C rd ops pl k rs s h i o true = match isEff o.op with
    | true => RPr C rd ops pl k rs (effOp C (Lim C) rd o.dst s h o.op)
    | false => RPe C rd ops pl k rs i o.dst s h (earlyVal C (ev s.tmps) h o.op) := rfl
theorem w_false (op : Op) (g : Option (Nat × Bool)) : RPw C rd ops pl k rs s h i ⟨dst, op, ty, pos, aft, g⟩ false = RP C rd ops pl k rs (s.put dst undef) h := rfl
theorem wa_none (op : Op) (τ : List (List Value)) : wantedA ops ⟨dst, op, ty, pos, aft, none⟩ τ = true := rfl
theorem wa_some (op : Op) (τ : List (List Value)) (j : Nat) (w : Bool) : wantedA ops ⟨dst, op, ty, pos, aft, some (j, w)⟩ τ = wantedBy ops τ j w := rfl
theorem RPe_val (v : Value) : RPe C rd ops pl k rs i dst s h (some (.val v)) = RP C rd ops pl k (.val i s.tmps v :: rs) (s.put dst v) h := rfl
theorem RPe_new (x : AObj) (mk : Nat → Value) (hf : freshAt (h.get h.next) = true) : RPe C rd ops pl k rs i dst s h (some (.new x mk)) = RP C rd ops pl k (.new i h.next x :: rs) (s.put dst (mk h.next)) (h.alloc x) := by
  simp only [RPe, hf]
theorem RPr_ok : RPr C rd ops pl k rs (some (.ok s h)) = RP C rd ops pl k rs s h := rfl
noncomputable def RPc (C : Ctx) (rd : Option Nat) (ops : List Oper) (pl : List PE) (k : List Item) (rs : List Rec) (dst : Option Tmp) (s : FrS) : Option FRes → Fin
  | some (.ret v h _) => RP C rd ops pl k rs (s.put dst v) h
  | some (.panic v h) => bareEnd v s h s.defers
  | none => none
noncomputable def RPh (C : Ctx) (rd : Option Nat) (ops : List Oper) (pl : List PE) (k : List Item) (rs : List Rec) (dst : Option Tmp) (s : FrS) : Option Heap → Fin
  | some h => RP C rd ops pl k rs (s.put dst undef) h
  | none => none
noncomputable def RPq (C : Ctx) (rd : Option Nat) (ops : List Oper) (pl : List PE) (k : List Item) (rs : List Rec) (dst : Option Tmp) (s : FrS) : Option (Value × Heap) → Fin
  | some q => RP C rd ops pl k rs (s.put dst q.1) q.2
  | none => none
theorem RPc_ret (v : Value) (p : Option Value) : RPc C rd ops pl k rs dst s (some (.ret v h p)) = RP C rd ops pl k rs (s.put dst v) h := rfl
theorem RPc_panic (v : Value) (hd : s.defers = []) : RPc C rd ops pl k rs dst s (some (.panic v h)) = some (.panic v, s, h) := by
  show bareEnd v s h s.defers = _
  rw [hd]; rfl
theorem RPh_some : RPh C rd ops pl k rs dst s (some h) = RP C rd ops pl k rs (s.put dst undef) h := rfl
theorem RPq_some (v : Value) : RPq C rd ops pl k rs dst s (some (v, h)) = RP C rd ops pl k rs (s.put dst v) h := rfl
theorem RPr_call (f : Operand) (xs : List Operand) (ts : Array TypeId) : RPr C rd ops pl k rs (effOp C (Lim C) rd dst s h (.call ⟨.value f, ⟨xs⟩, ts⟩)) = RPc C rd ops pl k rs dst s (appV C (ev s.tmps f) (xs.map (ev s.tmps)) h) := by
  show RPr C rd ops pl k rs (callVal C (Lim C) dst (xs.map (ev s.tmps)) s h (ev s.tmps f)) = _
  cases ev s.tmps f <;> try rfl
  rename_i fn a b
  show RPr C rd ops pl k rs (obind (applyFn C (Lim C) fn b.toList (a.toList ++ _) h) (ofRes s dst)) = RPc C rd ops pl k rs dst s (applyFn C (Lim C) fn b.toList (a.toList ++ _) h)
  cases applyFn C (Lim C) fn b.toList (a.toList ++ xs.map (ev s.tmps)) h with
  | none => rfl
  | some r => cases r <;> rfl
theorem RPr_invoke (f : Operand) (n : String) (xs : List Operand) (ts : Array TypeId) : RPr C rd ops pl k rs (effOp C (Lim C) rd dst s h (.call ⟨.invoke f n, ⟨xs⟩, ts⟩)) = RPc C rd ops pl k rs dst s (callM C (Lim C) (ev s.tmps f) n (xs.map (ev s.tmps)) h) := by
  show RPr C rd ops pl k rs (obind (callM C (Lim C) (ev s.tmps f) n (xs.map (ev s.tmps)) h) (ofRes s dst)) = _
  cases callM C (Lim C) (ev s.tmps f) n (xs.map (ev s.tmps)) h with
  | none => rfl
  | some r => cases r <;> rfl
theorem RPr_store (t : TypeId) (a v : Operand) : RPr C rd ops pl k rs (effOp C (Lim C) rd dst s h (.store t a v)) = RPh C rd ops pl k rs dst s (aStore C t (ev s.tmps a) (ev s.tmps v) h) := by
  show RPr C rd ops pl k rs (obind (aStore C t (ev s.tmps a) (ev s.tmps v) h) (ofHeap s dst)) = _
  cases aStore C t (ev s.tmps a) (ev s.tmps v) h <;> rfl
theorem RPr_mapUpdate (t : TypeId) (m x v : Operand) : RPr C rd ops pl k rs (effOp C (Lim C) rd dst s h (.mapUpdate t m x v)) = RPh C rd ops pl k rs dst s (aMapUpdate C t (ev s.tmps m) (ev s.tmps x) (ev s.tmps v) h) := by
  show RPr C rd ops pl k rs (obind (aMapUpdate C t (ev s.tmps m) (ev s.tmps x) (ev s.tmps v) h) (ofHeap s dst)) = _
  cases aMapUpdate C t (ev s.tmps m) (ev s.tmps x) (ev s.tmps v) h <;> rfl
theorem RPr_append (ts : Array TypeId) (x y : Operand) (xs : List Operand) : RPr C rd ops pl k rs (effOp C (Lim C) rd dst s h (.call ⟨.builtin .append, ⟨x :: y :: xs⟩, ts⟩)) = RPq C rd ops pl k rs dst s (aAppend C ts.toList (ev s.tmps x) (ev s.tmps y) h) := by
  show RPr C rd ops pl k rs (obind (aAppend C ts.toList (ev s.tmps x) (ev s.tmps y) h) (ofVal s dst)) = _
  cases aAppend C ts.toList (ev s.tmps x) (ev s.tmps y) h <;> rfl
theorem rec_val (op : Op) (j : Nat) (τ : List (List Value)) (v : Value) : recheckR C op h (some (.val j τ v)) = sameEV v (earlyVal C (ev τ) h op) := rfl
theorem rec_new (op : Op) (j id : Nat) (x : AObj) : recheckR C op h (some (.new j id x)) = sameAt x (h.get id) := rfl
theorem rec_none (op : Op) : recheckR C op h none = true := rfl
theorem find_val (i j : Nat) (τ : List (List Value)) (v : Value) (r : List Rec) : findRec i (.val j τ v :: r) = if j = i then some (.val j τ v) else findRec i r := by
  rw [findRec_cons]
  by_cases e : j = i
  · subst e; simp [Rec.idx]
  · have : Nat.beq j i = false := by cases hb : Nat.beq j i with | true => exact absurd (natBeq hb) e | false => rfl
    simp [Rec.idx, this, e]
theorem find_new (i j id : Nat) (x : AObj) (r : List Rec) : findRec i (.new j id x :: r) = if j = i then some (.new j id x) else findRec i r := by
  rw [findRec_cons]
  by_cases e : j = i
  · subst e; simp [Rec.idx]
  · have : Nat.beq j i = false := by cases hb : Nat.beq j i with | true => exact absurd (natBeq hb) e | false => rfl
    simp [Rec.idx, this, e]
theorem find_nil (i : Nat) : findRec i [] = none := rfl
theorem same_val (v v' : Value) : sameEV v (some (.val v')) = sameV v v' := rfl
def selfC : Value → Bool
  | .bool _ => true
  | .int _ _ => true
  | .string _ => true
  | .pointer _ => true
  | .slice _ _ _ => true
  | .map _ => true
  | .nilFunc => true
  | .nilIface => true
  | .func (.func _) xs ys => xs.toList.isEmpty && ys.toList.isEmpty
  | _ => false
theorem byteEq_refl (l : List UInt8) : byteEq l l = true := by
  induction l with
  | nil => rfl
  | cons x l ih =>
    show (match Nat.beq x.toNat x.toNat with | true => byteEq l l | false => false) = true
    rw [Nat.beq_refl]; exact ih
theorem sameAddrB_refl (a : Option Addr) : sameAddrB a a = true := by
  cases a with
  | none => rfl
  | some a => simp [sameAddrB]
theorem sameC_refl {v : Value} (h : selfC v = true) : sameC v v = true := by
  unfold selfC at h
  split at h <;> try (simp at h; done)
  · simp [sameC]
  · simp [sameC]
  · exact byteEq_refl _
  · exact sameAddrB_refl _
  · simp [sameC, sameAddrB_refl]
  · rename_i m; cases m <;> simp [sameC]
  · rfl
  · rfl
  · obtain ⟨h1, h2⟩ := (Bool.and_eq_true _ _).mp h
    simp only [sameC, h1, h2, Nat.beq_refl, Bool.and_self]
theorem sameCs_refl {l : List Value} (h : l.all selfC = true) : sameCs l l = true := by
  induction l with
  | nil => rfl
  | cons x l ih =>
    rw [List.all_cons, Bool.and_eq_true] at h
    show (match sameC x x with | true => sameCs l l | false => false) = true
    rw [sameC_refl h.1]; exact ih h.2
theorem sameV_cell {v : Value} (h : selfC v = true) : sameV v v = true := by
  have hc := sameC_refl h
  cases v <;> first
    | exact hc
    | (simp [selfC] at h; done)
    | skip
  rename_i fn xs ys
  cases fn <;> try (simp [selfC] at h; done)
  obtain ⟨h1, h2⟩ := (Bool.and_eq_true _ _).mp (show (xs.toList.isEmpty && ys.toList.isEmpty) = true from h)
  have e1 := arr_empty h1
  have e2 := arr_empty h2
  subst e1; subst e2
  simp [sameV, sameWs, lrec_nil]
def selfW : Value → Bool
  | .agg xs => xs.toList.all selfC
  | v => selfC v
theorem sameW_refl {v : Value} (h : selfW v = true) : sameW v v = true := by
  cases v with
  | agg xs => exact sameCs_refl h
  | _ => (simp only [selfW] at h; simp only [sameW]; exact sameC_refl h)
theorem sameWs_refl {l : List Value} (h : l.all selfW = true) : sameWs l l = true := by
  induction l with
  | nil => rfl
  | cons x l ih =>
    rw [List.all_cons, Bool.and_eq_true] at h
    show (match sameW x x with | true => sameWs l l | false => false) = true
    rw [sameW_refl h.1]; exact ih h.2
theorem sameV_func {f : FuncId} {l m : List Value} (h1 : l.all selfW = true) (h2 : m.all selfW = true) : sameV (.func (.func f) ⟨l⟩ ⟨m⟩) (.func (.func f) ⟨l⟩ ⟨m⟩) = true := by
  simp [sameV, sameWs_refl h1, sameWs_refl h2]
theorem sameV_agg {l : List Value} (h : l.all selfC = true) : sameV (.agg ⟨l⟩) (.agg ⟨l⟩) = true := sameCs_refl h
theorem sameO_row {l : List Value} (s : Nat) (h : l.all selfC = true) : sameAt (.row l s true) (some (.row l s true)) = true := by
  simp [sameAt, sameO, sameCs_refl h]
theorem sameO_map (c : Nat) : sameAt (.map [] c) (some (.map [] c)) = true := by simp [sameAt, sameO]
end
theorem e_move (x : Operand) : isEff (.move x) = false := rfl
theorem v_move (C : Ctx) (ρ : Operand → Value) (h : Heap) (x : Operand) : earlyVal C ρ h (.move x) = asVal (ρ x) := rfl
theorem e_assign (x : Operand) : isEff (.assign x) = false := rfl
theorem v_assign (C : Ctx) (ρ : Operand → Value) (h : Heap) (x : Operand) : earlyVal C ρ h (.assign x) = asVal (ρ x) := rfl
theorem e_pick (c a b : Operand) : isEff (.pick c a b) = false := rfl
theorem v_pick (C : Ctx) (ρ : Operand → Value) (h : Heap) (c a b : Operand) : earlyVal C ρ h (.pick c a b) = aPick (ρ a) (ρ b) (ρ c) := rfl
theorem e_alloc (t : TypeId) : isEff (.alloc t) = false := rfl
theorem v_alloc (C : Ctx) (ρ : Operand → Value) (h : Heap) (t : TypeId) : earlyVal C ρ h (.alloc t) = aAlloc C t := rfl
theorem e_box (t : TypeId) (x : Operand) : isEff (.box t x) = false := rfl
theorem v_box (C : Ctx) (ρ : Operand → Value) (h : Heap) (t : TypeId) (x : Operand) : earlyVal C ρ h (.box t x) = aBox (ρ x) := rfl
theorem e_build (t : TypeId) (p : Array (Nat × Operand)) : isEff (.build t p) = false := rfl
theorem v_build (C : Ctx) (ρ : Operand → Value) (h : Heap) (t : TypeId) (p : Array (Nat × Operand)) : earlyVal C ρ h (.build t p) = obind (aBuild C t (partsOf ρ p)) asVal := rfl
theorem e_buildSlice (t : TypeId) (n : Nat) (p : Array (Nat × Operand)) : isEff (.buildSlice t n p) = false := rfl
theorem v_buildSlice (C : Ctx) (ρ : Operand → Value) (h : Heap) (t : TypeId) (n : Nat) (p : Array (Nat × Operand)) : earlyVal C ρ h (.buildSlice t n p) = aBuildSlice C t n (partsOf ρ p) := rfl
theorem e_load (t : TypeId) (a : Operand) : isEff (.load t a) = false := rfl
theorem v_load (C : Ctx) (ρ : Operand → Value) (h : Heap) (t : TypeId) (a : Operand) : earlyVal C ρ h (.load t a) = obind (aLoad C t (ρ a) h) asVal := rfl
theorem e_nilCheck (x : Operand) : isEff (.nilCheck x) = false := rfl
theorem v_nilCheck (C : Ctx) (ρ : Operand → Value) (h : Heap) (x : Operand) : earlyVal C ρ h (.nilCheck x) = aNilCheck C (ρ x) := rfl
theorem e_binOp (op : BinOp) (t : TypeId) (x y : Operand) (u : TypeId) : isEff (.binOp op t x y u) = false := rfl
theorem v_binOp (C : Ctx) (ρ : Operand → Value) (h : Heap) (op : BinOp) (t : TypeId) (x y : Operand) (u : TypeId) : earlyVal C ρ h (.binOp op t x y u) = obind (aBin C op t (isConstO x || isConstO y) (ρ x) (ρ y)) asVal := rfl
theorem e_unOp (op : UnOp) (t : TypeId) (x : Operand) : isEff (.unOp op t x) = false := rfl
theorem v_unOp (C : Ctx) (ρ : Operand → Value) (h : Heap) (op : UnOp) (t : TypeId) (x : Operand) : earlyVal C ρ h (.unOp op t x) = obind (aUn C.P op (ρ x)) asVal := rfl
theorem e_convert (a b : TypeId) (x : Operand) : isEff (.convert a b x) = false := rfl
theorem v_convert (C : Ctx) (ρ : Operand → Value) (h : Heap) (a b : TypeId) (x : Operand) : earlyVal C ρ h (.convert a b x) = aConvert C a b (ρ x) h := rfl
theorem e_makeInterface (t : TypeId) (x : Operand) : isEff (.makeInterface t x) = false := rfl
theorem v_makeInterface (C : Ctx) (ρ : Operand → Value) (h : Heap) (t : TypeId) (x : Operand) : earlyVal C ρ h (.makeInterface t x) = aMakeIface C t (ρ x) := rfl
theorem e_makeFunc (fn : Fn) (a b : Array Operand) : isEff (.makeFunc fn a b) = false := rfl
theorem v_makeFunc (C : Ctx) (ρ : Operand → Value) (h : Heap) (fn : Fn) (a b : Array Operand) : earlyVal C ρ h (.makeFunc fn a b) = aMakeFunc ρ fn a b := rfl
theorem e_makeMap (t : TypeId) (r : Option Operand) : isEff (.makeMap t r) = false := rfl
theorem v_makeMap (C : Ctx) (ρ : Operand → Value) (h : Heap) (t : TypeId) (r : Option Operand) : earlyVal C ρ h (.makeMap t r) = aMakeMap r := rfl
theorem e_makeSlice (t : TypeId) (a b : Operand) : isEff (.makeSlice t a b) = false := rfl
theorem v_makeSlice (C : Ctx) (ρ : Operand → Value) (h : Heap) (t : TypeId) (a b : Operand) : earlyVal C ρ h (.makeSlice t a b) = aMakeSlice C t (ρ a) (ρ b) := rfl
theorem e_slice (t : TypeId) (x : Operand) (a b m : Option Operand) : isEff (.slice t x a b m) = false := rfl
theorem v_slice (C : Ctx) (ρ : Operand → Value) (h : Heap) (t : TypeId) (x : Operand) (a b m : Option Operand) : earlyVal C ρ h (.slice t x a b m) = obind (aSlice C t (ρ x) (a.map ρ) (b.map ρ) (m.map ρ)) asVal := rfl
theorem e_fieldAddr (t : TypeId) (x : Operand) (i : Nat) : isEff (.fieldAddr t x i) = false := rfl
theorem v_fieldAddr (C : Ctx) (ρ : Operand → Value) (h : Heap) (t : TypeId) (x : Operand) (i : Nat) : earlyVal C ρ h (.fieldAddr t x i) = aFieldAddr C t (ρ x) i := rfl
theorem e_field (t : TypeId) (x : Operand) (i : Nat) : isEff (.field t x i) = false := rfl
theorem v_field (C : Ctx) (ρ : Operand → Value) (h : Heap) (t : TypeId) (x : Operand) (i : Nat) : earlyVal C ρ h (.field t x i) = aField C t (ρ x) i := rfl
theorem e_indexAddr (t : TypeId) (x i : Operand) : isEff (.indexAddr t x i) = false := rfl
theorem v_indexAddr (C : Ctx) (ρ : Operand → Value) (h : Heap) (t : TypeId) (x i : Operand) : earlyVal C ρ h (.indexAddr t x i) = obind (aIndexAddr C t (ρ x) (ρ i)) asVal := rfl
theorem e_index (t : TypeId) (x i : Operand) : isEff (.index t x i) = false := rfl
theorem v_index (C : Ctx) (ρ : Operand → Value) (h : Heap) (t : TypeId) (x i : Operand) : earlyVal C ρ h (.index t x i) = obind (aIndex C t (ρ x) (ρ i)) asVal := rfl
theorem e_lookup (t : TypeId) (m x : Operand) (ok : Bool) : isEff (.lookup t m x ok) = false := rfl
theorem v_lookup (C : Ctx) (ρ : Operand → Value) (h : Heap) (t : TypeId) (m x : Operand) (ok : Bool) : earlyVal C ρ h (.lookup t m x ok) = obind (aLookup C t (ρ m) (ρ x) ok h) asVal := rfl
theorem e_typeAssert (x : Operand) (u t : TypeId) (ok : Bool) : isEff (.typeAssert x u t ok) = false := rfl
theorem v_typeAssert (C : Ctx) (ρ : Operand → Value) (h : Heap) (x : Operand) (u t : TypeId) (ok : Bool) : earlyVal C ρ h (.typeAssert x u t ok) = obind (aTypeAssert C (ρ x) t ok) asVal := rfl
theorem e_extract (x : Operand) (i : Nat) : isEff (.extract x i) = false := rfl
theorem v_extract (C : Ctx) (ρ : Operand → Value) (h : Heap) (x : Operand) (i : Nat) : earlyVal C ρ h (.extract x i) = aExtract (ρ x) i := rfl
theorem e_store (t : TypeId) (a v : Operand) : isEff (.store t a v) = true := rfl
theorem e_mapUpdate (t : TypeId) (m x v : Operand) : isEff (.mapUpdate t m x v) = true := rfl
theorem e_insert (t : TypeId) (m x v : Operand) : isEff (.insert t m x v) = true := rfl
theorem e_range (t : TypeId) (x : Operand) : isEff (.range t x) = true := rfl
theorem e_next (i : Operand) (b : Bool) : isEff (.next i b) = true := rfl
theorem e_call (f : Operand) (xs : Array Operand) (ts : Array TypeId) : isEff (.call ⟨.value f, xs, ts⟩) = true := rfl
theorem e_invoke (f : Operand) (n : String) (xs : Array Operand) (ts : Array TypeId) : isEff (.call ⟨.invoke f n, xs, ts⟩) = true := rfl
theorem e_blen (xs : Array Operand) (ts : Array TypeId) : isEff (.call ⟨.builtin .len, xs, ts⟩) = false := rfl
theorem e_bmin (xs : Array Operand) (ts : Array TypeId) : isEff (.call ⟨.builtin .min, xs, ts⟩) = false := rfl
theorem e_bmax (xs : Array Operand) (ts : Array TypeId) : isEff (.call ⟨.builtin .max, xs, ts⟩) = false := rfl
theorem e_bappend (xs : Array Operand) (ts : Array TypeId) : isEff (.call ⟨.builtin .append, xs, ts⟩) = true := rfl
theorem e_bcopy (xs : Array Operand) (ts : Array TypeId) : isEff (.call ⟨.builtin .copy, xs, ts⟩) = true := rfl
theorem e_bdelete (xs : Array Operand) (ts : Array TypeId) : isEff (.call ⟨.builtin .delete, xs, ts⟩) = true := rfl
theorem e_brecover (xs : Array Operand) (ts : Array TypeId) : isEff (.call ⟨.builtin .recover, xs, ts⟩) = true := rfl
theorem v_len (C : Ctx) (ρ : Operand → Value) (h : Heap) (t : TypeId) (ts : List TypeId) (x : Operand) (xs : List Operand) : earlyVal C ρ h (.call ⟨.builtin .len, ⟨x :: xs⟩, ⟨t :: ts⟩⟩) = obind (aLen C t (ρ x) h) asVal := rfl
theorem v_min (C : Ctx) (ρ : Operand → Value) (h : Heap) (ts : Array TypeId) (x : Operand) (xs : List Operand) : earlyVal C ρ h (.call ⟨.builtin .min, ⟨x :: xs⟩, ts⟩) = obind (foldV min2 (xs.map ρ) (ρ x)) asVal := rfl
theorem v_max (C : Ctx) (ρ : Operand → Value) (h : Heap) (ts : Array TypeId) (x : Operand) (xs : List Operand) : earlyVal C ρ h (.call ⟨.builtin .max, ⟨x :: xs⟩, ts⟩) = obind (foldV max2 (xs.map ρ) (ρ x)) asVal := rfl
theorem w_eff {C : Ctx} {rd : Option Nat} {ops : List Oper} {k : List Item} {s : FrS} {h : Heap} {pl : List PE} {rs : List Rec} {i : Nat} {dst : Option Tmp} {ty : TypeId} {pos : String} {aft : Array Edge} (op : Op) (g : Option (Nat × Bool)) (he : isEff op = true) :
    RPw C rd ops pl k rs s h i ⟨dst, op, ty, pos, aft, g⟩ true = RPr C rd ops pl k rs (effOp C (Lim C) rd dst s h op) := by rw [w_true]; simp only [he]
theorem w_early {C : Ctx} {rd : Option Nat} {ops : List Oper} {k : List Item} {s : FrS} {h : Heap} {pl : List PE} {rs : List Rec} {i : Nat} {dst : Option Tmp} {ty : TypeId} {pos : String} {aft : Array Edge} (op : Op) (g : Option (Nat × Bool)) (he : isEff op = false) :
    RPw C rd ops pl k rs s h i ⟨dst, op, ty, pos, aft, g⟩ true = RPe C rd ops pl k rs i dst s h (earlyVal C (ev s.tmps) h op) := by rw [w_true]; simp only [he]
end Go.Am
