/- Parts Am15, Am16, Am17 of the abstract machine over this program, joined: what each part says stands at its head. -/
import Derived.Test.YtlflfbnnjlkkcaaGreatJAm13
import Derived.Defers
set_option linter.unusedSimpArgs false
set_option linter.unusedVariables false
set_option linter.defProp false
namespace Go.Am
open Go
noncomputable def goodOp (C : Ctx) (o : Oper) : Bool := o.op.operands.toList.all (goodO C)
noncomputable def goodRegion (C : Ctx) (gd : List Oper → Bool) (ops : List Oper) (draw : Bool) : Bool :=
  ops.all (goodOp C) && (match draw with | true => gd ops | false => true)
noncomputable def goodCode (C : Ctx) (gd : List Oper → Bool) : Code → Bool
  | .seq a b => goodCode C gd a && goodCode C gd b
  | .cond c a b => goodO C c && (goodCode C gd a && goodCode C gd b)
  | .block _ c => goodCode C gd c
  | .loop c => goodCode C gd c
  | .scope c => goodCode C gd c
  | .region _ ops draw => goodRegion C gd ops.toList draw
  | .rangeFunc f _ a c => goodO C f && (goodCode C gd a && goodCode C gd c)
  | _ => true
def goodP (C : Ctx) (gd : List Oper → Bool) (c : Code) : Prop := goodCode C gd c = true
def goodItem (C : Ctx) (gd : List Oper → Bool) : Item → Prop
  | .code c => goodCode C gd c = true
  | .inLoop c => goodCode C gd c = true
  | _ => True
def goodItems (C : Ctx) (gd : List Oper → Bool) (k : List Item) : Prop := ∀ it ∈ k, goodItem C gd it
theorem goodItems.cons {C : Ctx} {gd : List Oper → Bool} {it : Item} {k : List Item} (h : goodItem C gd it) (hk : goodItems C gd k) : goodItems C gd (it :: k) := by
  intro x hx
  rcases List.mem_cons.1 hx with rfl | hx
  · exact h
  · exact hk x hx
theorem goodItems.tail {C : Ctx} {gd : List Oper → Bool} {it : Item} {k : List Item} (hk : goodItems C gd (it :: k)) : goodItems C gd k := fun x hx => hk x (List.mem_cons_of_mem _ hx)
theorem goodItems.head {C : Ctx} {gd : List Oper → Bool} {it : Item} {k : List Item} (hk : goodItems C gd (it :: k)) : goodItem C gd it := hk it List.mem_cons_self
theorem exitTo_good {C : Ctx} {gd : List Oper → Bool} {id : Nat} : ∀ {k k' : List Item}, exitTo id k = some k' → goodItems C gd k → goodItems C gd k'
  | [], k', h, _ => by simp [exitTo] at h
  | it :: k, k', h, hk => by
    by_cases hb : ∃ i, it = .inBlock i
    · obtain ⟨i, rfl⟩ := hb
      simp only [exitTo] at h
      split at h
      · simp at h; subst h; exact hk.tail
      · exact exitTo_good h hk.tail
    · have : exitTo id (it :: k) = exitTo id k := by cases it <;> first | rfl | (exact absurd ⟨_, rfl⟩ hb)
      rw [this] at h
      exact exitTo_good h hk.tail
def frm (b : Frame) (tmps : Array Value) (ds : List Deferred) (todo : List Item) : Frame :=
  { fn := b.fn, tmps, todo, defers := ds, mode := .run, kind := b.kind, roundOf := b.roundOf }
def GRel (C : Ctx) (μ : Mu) : Prop := ∀ g, g < C.P.globals.size → ∃ e, μ (g + 1) = some e ∧ e.blk = g ∧ e.base = 0
theorem GRel.mono {C : Ctx} {μ μ' : Mu} (hle : μ.le μ') (h : GRel C μ) : GRel C μ' := fun g hg => let ⟨e, a, b⟩ := h g hg; ⟨e, hle _ _ a, b⟩
theorem ev_rel {C : Ctx} {μ : Mu} {τ : List (List Value)} {tmps : Array Value} {b : Frame} {ds : List Deferred} {todo : List Item} (hg : GRel C μ) (ht : TRel μ τ tmps) {x : Operand} (hx : goodO C x = true) :
    VRel μ (ev τ x) ((frm b tmps ds todo).eval x) := by
  cases x with
  | tmp t => exact (ht t).1
  | const v => exact .ofPlain hx
  | global g =>
    obtain ⟨e, h1, h2, h3⟩ := hg g (Nat.le_of_ble_eq_true hx)
    exact .ptr _ _ ⟨rfl, e, h1, h2.symm, by simp [h3]⟩
  | func f => exact .func _ _ _ _ _ _ (.func f) rfl rfl (fun i x X a _ => by simp at a) (fun i x X a _ => by simp at a)
def DRel (μ : Mu) (d D : Deferred) : Prop :=
  match d.target with
  | .collected b => ∃ e, μ b = some e ∧ D.target = .collected e.blk
  | .fn f cap => ∃ g Cap, D.target = .fn g Cap ∧ FnRel μ f g ∧ VRels μ cap.toList Cap.toList ∧ VRels μ d.args.toList D.args.toList
  | _ => False
theorem FnRel.mono' {μ μ' : Mu} (hle : μ.le μ') {f g : Fn} (h : FnRel μ f g) : FnRel μ' f g := by
  cases h with
  | func f => exact .func f
  | method n => exact .method n
  | yield l e hl => exact .yield l e (hle _ _ hl)
theorem DRel.mono {μ μ' : Mu} (hle : μ.le μ') {d D : Deferred} (h : DRel μ d D) : DRel μ' d D := by
  obtain ⟨t, a⟩ := d
  cases t <;> simp only [DRel] at h ⊢
  · obtain ⟨g, Cap, h1, h2, h3, h4⟩ := h
    exact ⟨g, Cap, h1, h2.mono' hle, h3.mono hle, h4.mono hle⟩
  · obtain ⟨e, h1, h2⟩ := h
    exact ⟨e, hle _ _ h1, h2⟩
def DRels (μ : Mu) : List Deferred → List Deferred → Prop
  | [], [] => True
  | d :: ds, D :: DS => DRel μ d D ∧ DRels μ ds DS
  | _, _ => False
theorem DRels.mono {μ μ' : Mu} (hle : μ.le μ') : ∀ {ds DS : List Deferred}, DRels μ ds DS → DRels μ' ds DS
  | [], [], _ => trivial
  | _ :: _, _ :: _, h => ⟨h.1.mono hle, DRels.mono hle h.2⟩
  | [], _ :: _, h => h.elim
  | _ :: _, [], h => h.elim
theorem DRels.append {μ : Mu} : ∀ {ds DS es ES : List Deferred}, DRels μ ds DS → DRels μ es ES → DRels μ (ds ++ es) (DS ++ ES)
  | [], [], _, _, _, h => h
  | _ :: _, _ :: _, _, _, h, h' => ⟨h.1, DRels.append h.2 h'⟩
  | [], _ :: _, _, _, h, _ => h.elim
  | _ :: _, [], _, _, h, _ => h.elim
theorem DRels.nil_inv {μ : Mu} {DS : List Deferred} (h : DRels μ [] DS) : DS = [] := by
  cases DS with
  | nil => rfl
  | cons _ _ => exact h.elim
def RdRel (μ : Mu) : Option Nat → Option Nat → Prop
  | none, none => True
  | some l, some L => ∃ e, μ l = some e ∧ L = e.blk
  | _, _ => False
theorem RdRel.mono {μ μ' : Mu} (hle : μ.le μ') {a b : Option Nat} (h : RdRel μ a b) : RdRel μ' a b := by
  cases a <;> cases b <;> first | exact h | (obtain ⟨e, h1, h2⟩ := h; exact ⟨e, hle _ _ h1, h2⟩)
def PanRel (μ : Mu) (kind : CallKind) (cs : List Frame) : Option Value → Prop
  | none => ∀ fr : Frame, fr.kind = kind → tryRecover fr cs = none
  | some v => kind = .deferred ∧ ∃ c rest V, cs = c :: rest ∧ VRel μ v V ∧ c.mode = .panicking [{ v := V, recovered := false }]
theorem PanRel.mono {μ μ' : Mu} (hle : μ.le μ') {k : CallKind} {cs : List Frame} {p : Option Value} (h : PanRel μ k cs p) : PanRel μ' k cs p := by
  cases p with
  | none => exact h
  | some v => obtain ⟨h1, c, r, V, h2, h3, h4⟩ := h; exact ⟨h1, c, r, V, h2, h3.mono hle, h4⟩
def Cs (p p' : Option Value) (cs cs' : List Frame) : Prop :=
  (p' = p ∧ cs' = cs) ∨ (∃ v c rest V, p = some v ∧ p' = none ∧ cs = c :: rest ∧ c.mode = .panicking [{ v := V, recovered := false }] ∧ cs' = { c with mode := .panicking [{ v := V, recovered := true }] } :: rest)
theorem Cs.refl (p : Option Value) (cs : List Frame) : Cs p p cs cs := .inl ⟨rfl, rfl⟩
theorem Cs.trans {p p' p'' : Option Value} {cs cs' cs'' : List Frame} (h : Cs p p' cs cs') (h' : Cs p' p'' cs' cs'') : Cs p p'' cs cs'' := by
  rcases h with ⟨rfl, rfl⟩ | ⟨v, c, r, V, h1, h2, h3, h4, h5⟩
  · exact h'
  · rcases h' with ⟨rfl, rfl⟩ | ⟨v', c', r', V', h1', _⟩
    · exact .inr ⟨v, c, r, V, h1, h2, h3, h4, h5⟩
    · rw [h2] at h1'; simp at h1'
structure St (C : Ctx) (gd : List Oper → Bool) (w0 : World) (μ : Mu) (s : FrS) (h : Heap) (rd : Option Nat) (b : Frame) (tmps : Array Value) (ds : List Deferred) (cs : List Frame) (w : World) : Prop where
  H : HRel (goodP C gd) w0 μ h w
  T : TRel μ s.tmps tmps
  D : DRels μ s.defers ds
  R : RdRel μ rd b.roundOf
  N : PanRel μ b.kind cs s.pan
  G : GRel C μ
structure Aft (C : Ctx) (gd : List Oper → Bool) (w0 : World) (μ : Mu) (n : Nat) (s : FrS) (cs : List Frame) (rd : Option Nat) (b : Frame) (s' : FrS) (h' : Heap) (μ' : Mu) (tmps' : Array Value) (ds' : List Deferred) (cs' : List Frame) (w' : World) : Prop where
  le : μ.le μ'
  fresh : Fresh n μ μ'
  nx : n ≤ h'.next
  st : St C gd w0 μ' s' h' rd b tmps' ds' cs' w'
  pan : Cs s.pan s'.pan cs cs'
theorem Aft.refl {C : Ctx} {gd : List Oper → Bool} {w0 : World} {μ : Mu} {s : FrS} {h : Heap} {rd : Option Nat} {b : Frame} {tmps : Array Value} {ds : List Deferred} {cs : List Frame} {w : World}
    (S : St C gd w0 μ s h rd b tmps ds cs w) : Aft C gd w0 μ h.next s cs rd b s h μ tmps ds cs w := ⟨fun _ _ a => a, Fresh.refl _ _, Nat.le_refl _, S, Cs.refl _ _⟩
theorem Aft.trans {C : Ctx} {gd : List Oper → Bool} {w0 : World} {μ μ1 μ2 : Mu} {n : Nat} {s s1 s2 : FrS} {cs cs1 cs2 : List Frame} {rd : Option Nat} {b : Frame} {h1 h2 : Heap} {t1 t2 : Array Value} {d1 d2 : List Deferred} {w1 w2 : World}
    (A : Aft C gd w0 μ n s cs rd b s1 h1 μ1 t1 d1 cs1 w1) (B : Aft C gd w0 μ1 h1.next s1 cs1 rd b s2 h2 μ2 t2 d2 cs2 w2) : Aft C gd w0 μ n s cs rd b s2 h2 μ2 t2 d2 cs2 w2 :=
  ⟨A.le.trans B.le, Fresh.trans A.nx A.fresh B.fresh, Nat.le_trans A.nx B.nx, B.st, A.pan.trans B.pan⟩
def AtLeave (j : Option Code) (todo : List Item) : Prop :=
  match j with
  | none => todo = []
  | some .ret => ∃ k, todo = .code .ret :: k
  | some (.exit id) => ∃ k, todo = .code (.exit id) :: k ∧ exitTo id k = none
  | _ => False
def EndsAt (P : Program) (m : Machine) (b : Frame) (tmps' : Array Value) (ds' : List Deferred) (cs' : List Frame) (w' : World) (μ' : Mu) : FEnd → Prop
  | .ended j => ∃ todo, AtLeave j todo ∧ Steps P m (lone (frm b tmps' ds' todo) cs' w')
  | .panic v => ∃ todo V, VRel μ' v V ∧ Steps P m (lone { frm b tmps' ds' todo with mode := .panicking [{ v := V, recovered := false }] } cs' w')
theorem EndsAt.of_steps {P : Program} {m m' : Machine} {b : Frame} {t : Array Value} {d : List Deferred} {cs : List Frame} {w : World} {μ : Mu} {r : FEnd} (hs : Steps P m m') (h : EndsAt P m' b t d cs w μ r) : EndsAt P m b t d cs w μ r := by
  cases r with
  | ended j => obtain ⟨k, h1, h2⟩ := h; exact ⟨k, h1, hs.trans h2⟩
  | panic v => obtain ⟨k, V, h1, h2⟩ := h; exact ⟨k, V, h1, hs.trans h2⟩
def Near (r : FEnd) (s s' : FrS) : Prop := s' = s ∨ ∃ v, r = .panic v ∧ s.defers = [] ∧ s'.defers = [] ∧ s'.pan = s.pan
theorem Near.defers {r : FEnd} {s s' : FrS} (h : Near r s s') : s'.defers = s.defers := by
  rcases h with e | ⟨v, _, e1, e2, _⟩
  · rw [e]
  · rw [e1, e2]
def SelfOK (C : Ctx) (gd : List Oper → Bool) (w0 : World) (self : Self) : Prop :=
  ∀ rd k s h r s' h', self rd k s h = some (r, s', h') → goodItems C gd k → ∀ μ w b cs tmps ds, St C gd w0 μ s h rd b tmps ds cs w →
    ∃ s2 μ' w' tmps' ds' cs', Near r s' s2 ∧ Aft C gd w0 μ h.next s cs rd b s2 h' μ' tmps' ds' cs' w' ∧ EndsAt C.P (lone (frm b tmps ds k) cs w) b tmps' ds' cs' w' μ' r
def CallPost (C : Ctx) (gd : List Oper → Bool) (w0 : World) (μ : Mu) (n : Nat) : FRes → Ending → World → Prop
  | .ret v h' _, .returned V, w' => ∃ μ', μ.le μ' ∧ Fresh n μ μ' ∧ n ≤ h'.next ∧ HRel (goodP C gd) w0 μ' h' w' ∧ VRel μ' v V
  | .panic v h', .panicked chain, w' => ∃ μ' V, μ.le μ' ∧ Fresh n μ μ' ∧ n ≤ h'.next ∧ HRel (goodP C gd) w0 μ' h' w' ∧ VRel μ' v V ∧ chain = [{ v := V, recovered := false }]
  | _, _, _ => False
structure Ctx.Ok (C : Ctx) (gd : List Oper → Bool) (w0 : World) : Prop where
  ok0 : C.Ok0
  F : ∀ f fn, C.F.get f = some fn → C.P.funcs[f]? = some fn ∧ fn.name ≠ "runtime.NumGoroutine" ∧ ∀ c, fn.body = some c → goodCode C gd c = true
  A : ∀ f sp, C.A f = some sp → (∃ fn, C.P.funcs[f]? = some fn ∧ fn.name ≠ "runtime.NumGoroutine" ∧ fn.body.isSome = true) ∧
    ∀ μ h w args ARGS res, HRel (goodP C gd) w0 μ h w → GRel C μ → VRels μ args ARGS.toList → sp args h = some res → Calls C.P f ARGS w (CallPost C gd w0 μ h.next res)
section
variable {P : Program} {b : Frame} {t : Array Value} {d : List Deferred} {k : List Item} {cs : List Frame} {w : World}
theorem st_skip : Go.step P (lone (frm b t d (.code .skip :: k)) cs w) = .next (lone (frm b t d k) cs w) := step_lone_go (by simp [stepG, stepG.exec, frm])
theorem st_label {l : Nat} : Go.step P (lone (frm b t d (.code (.label l) :: k)) cs w) = .next (lone (frm b t d k) cs w) := step_lone_go (by simp [stepG, stepG.exec, frm])
theorem st_inBlock {l : Nat} : Go.step P (lone (frm b t d (.inBlock l :: k)) cs w) = .next (lone (frm b t d k) cs w) := step_lone_go (by simp [stepG, stepG.exec, frm])
theorem st_inScope {c : Code} : Go.step P (lone (frm b t d (.inScope c :: k)) cs w) = .next (lone (frm b t d k) cs w) := step_lone_go (by simp [stepG, stepG.exec, frm])
theorem st_seq {x y : Code} : Go.step P (lone (frm b t d (.code (.seq x y) :: k)) cs w) = .next (lone (frm b t d (.code x :: .code y :: k)) cs w) := step_lone_go (by simp [stepG, stepG.exec, frm])
theorem st_block {l : Nat} {c : Code} : Go.step P (lone (frm b t d (.code (.block l c) :: k)) cs w) = .next (lone (frm b t d (.code c :: .inBlock l :: k)) cs w) := step_lone_go (by simp [stepG, stepG.exec, frm])
theorem st_loop {c : Code} : Go.step P (lone (frm b t d (.code (.loop c) :: k)) cs w) = .next (lone (frm b t d (.code c :: .inLoop c :: k)) cs w) := step_lone_go (by simp [stepG, stepG.exec, frm])
theorem st_inLoop {c : Code} : Go.step P (lone (frm b t d (.inLoop c :: k)) cs w) = .next (lone (frm b t d (.code c :: .inLoop c :: k)) cs w) := step_lone_go (by simp [stepG, stepG.exec, frm])
theorem st_scope {c : Code} : Go.step P (lone (frm b t d (.code (.scope c) :: k)) cs w) = .next (lone (frm b t d (.code c :: .inScope c :: k)) cs w) := step_lone_go (by simp [stepG, stepG.exec, frm])
theorem st_exit {l : Nat} {k' : List Item} (h : exitTo l k = some k') : Go.step P (lone (frm b t d (.code (.exit l) :: k)) cs w) = .next (lone (frm b t d k') cs w) := step_lone_go (by simp [stepG, stepG.exec, frm, h])
theorem st_cond {c : Operand} {x y : Code} {u : Bool} (h : (frm b t d (.code (.cond c x y) :: k)).eval c = .bool u) :
    Go.step P (lone (frm b t d (.code (.cond c x y) :: k)) cs w) = .next (lone (frm b t d (.code (if u then x else y) :: k)) cs w) := step_lone_go (by
  simp only [frm] at h
  simp [stepG, stepG.exec, frm, h])
theorem st_region {id : Nat} {ops : Array Oper} : Go.step P (lone (frm b t d (.code (.region id ops false) :: k)) cs w) = .next (lone (frm b t d (.inRegion ops (List.range ops.size) :: k)) cs w) := step_lone_go (by simp [stepG, stepG.exec, frm])
theorem st_draw {id : Nat} {ops : Array Oper} : Go.step P (lone (frm b t d (.code (.region id ops true) :: k)) cs w) =
    .next (lone (frm b t d (.inRegion ops (Region.schedule (P.follows .mixedOrders) ops (w.tape w.drawn (.order b.fn id))) :: k)) cs w.drew) := step_lone_go (by simp [stepG, stepG.exec, frm, choose, Sem.run, Question.forced, Question.cut])
theorem st_regionEnd {ops : Array Oper} : Go.step P (lone (frm b t d (.inRegion ops [] :: k)) cs w) = .next (lone (frm b t d k) cs w) := step_lone_go (by simp [stepG, stepG.exec, frm])
def putT (t : Array Value) (dst : Option Tmp) (v : Value) : Array Value :=
  match dst with
  | some d => t.setIfInBounds d v
  | none => t
theorem frm_finish {ops : Array Oper} {i : Nat} {rest : List Nat} (v : Value) : (frm b t d (.inRegion ops (i :: rest) :: k)).finish v = frm b (putT t ((ops[i]?).bind (·.dst)) v) d (.inRegion ops rest :: k) := rfl
theorem st_opSkip {ops : Array Oper} {i : Nat} {rest : List Nat} {o : Oper} (ho : ops[i]? = some o) (h : Region.wanted o (yielded ops t) = false) :
    Go.step P (lone (frm b t d (.inRegion ops (i :: rest) :: k)) cs w) = .next (lone (frm b (putT t o.dst undef) d (.inRegion ops rest :: k)) cs w) := by
  have := frm_finish (b := b) (t := t) (d := d) (k := k) (ops := ops) (i := i) (rest := rest) undef
  rw [ho] at this
  simp only [Option.bind_some] at this
  rw [← this]
  exact step_lone_go (by simp [stepG, stepG.exec, frm, ho, h])
theorem stepG_oper {ops : Array Oper} {i : Nat} {rest : List Nat} {o : Oper} (ho : ops[i]? = some o) (hw : Region.wanted o (yielded ops t) = true) (hd : b.roundOf = none ∨ ∀ c, o.op ≠ .defer c) :
    stepG P true { frame := frm b t d (.inRegion ops (i :: rest) :: k), callers := cs, status := .running, dying := none } w =
      stepG.apply P true (frm b t d (.inRegion ops (i :: rest) :: k)) cs none (execOp (frm b t d (.inRegion ops (i :: rest) :: k)).eval o) w := by
  rcases hd with hd | hd
  · simp [stepG, stepG.exec, stepG.oper, Frame.oper?, frm, ho, hw, hd]
  · cases hr : b.roundOf with
    | none => simp [stepG, stepG.exec, stepG.oper, Frame.oper?, frm, ho, hw, hr]
    | some l =>
      obtain ⟨dst, op, ty, pos, after, guard⟩ := o
      cases op <;> first
        | (exact absurd rfl (hd _))
        | simp [stepG, stepG.exec, stepG.oper, Frame.oper?, frm, ho, hw, hr]
theorem st_value {ops : Array Oper} {i : Nat} {rest : List Nat} {o : Oper} {v : Value} {w' : World} (ho : ops[i]? = some o) (hw : Region.wanted o (yielded ops t) = true) (hd : b.roundOf = none ∨ ∀ c, o.op ≠ .defer c)
    (hr : (execOp (frm b t d (.inRegion ops (i :: rest) :: k)).eval o).run P w = .ok (.value v) w') :
    Go.step P (lone (frm b t d (.inRegion ops (i :: rest) :: k)) cs w) = .next (lone (frm b (putT t o.dst v) d (.inRegion ops rest :: k)) cs w') := by
  have := frm_finish (b := b) (t := t) (d := d) (k := k) (ops := ops) (i := i) (rest := rest) v
  rw [ho] at this
  simp only [Option.bind_some] at this
  rw [← this]
  exact step_lone_go (by rw [stepG_oper ho hw hd]; simp [stepG.apply, hr])
theorem st_unit {ops : Array Oper} {i : Nat} {rest : List Nat} {o : Oper} {w' : World} (ho : ops[i]? = some o) (hw : Region.wanted o (yielded ops t) = true) (hd : b.roundOf = none ∨ ∀ c, o.op ≠ .defer c)
    (hr : (execOp (frm b t d (.inRegion ops (i :: rest) :: k)).eval o).run P w = .ok .skip w') :
    Go.step P (lone (frm b t d (.inRegion ops (i :: rest) :: k)) cs w) = .next (lone (frm b (putT t o.dst undef) d (.inRegion ops rest :: k)) cs w') := by
  have := frm_finish (b := b) (t := t) (d := d) (k := k) (ops := ops) (i := i) (rest := rest) undef
  rw [ho] at this
  simp only [Option.bind_some] at this
  rw [← this]
  exact step_lone_go (by rw [stepG_oper ho hw hd]; simp [stepG.apply, hr])
theorem st_panic {ops : Array Oper} {i : Nat} {rest : List Nat} {o : Oper} {v : Value} {w' : World} (ho : ops[i]? = some o) (hw : Region.wanted o (yielded ops t) = true) (hd : b.roundOf = none ∨ ∀ c, o.op ≠ .defer c)
    (hr : (execOp (frm b t d (.inRegion ops (i :: rest) :: k)).eval o).run P w = .halt (.panic v) w') :
    Go.step P (lone (frm b t d (.inRegion ops (i :: rest) :: k)) cs w) = .next (lone { frm b t d (.inRegion ops (i :: rest) :: k) with mode := .panicking [{ v, recovered := false }] } cs w') := by
  have e : (frm b t d (.inRegion ops (i :: rest) :: k)).raise [{ v, recovered := false }] = { frm b t d (.inRegion ops (i :: rest) :: k) with mode := .panicking [{ v, recovered := false }] } := rfl
  rw [← e]
  exact step_lone_go (by rw [stepG_oper ho hw hd]; simp [stepG.apply, hr])
end
end Go.Am

namespace Go.Am
open Go
def readVar (tmps : Array Value) : ResultVar → Sem Value
  | .tmp t => pure (tmps.getD t undef)
  | .cell a t => do loadVar t (← asAddr (tmps.getD a undef))
section
variable {C : Ctx} {gd : List Oper → Bool} {w0 : World} (hOk : C.Ok gd w0) {μ : Mu} {h : Heap} {w : World}
include hOk
theorem readVar_sim {good : Code → Prop} (H : HRel good w0 μ h w) {τ : List (List Value)} {tmps : Array Value} (T : TRel μ τ tmps) {r : ResultVar} {v : Value} (hr : readResult C τ h r = some v) :
    ∃ V, (readVar tmps r).run C.P w = .ok V w ∧ VRel μ v V := by
  cases r with
  | tmp t => simp [readResult] at hr; subst hr; exact ⟨_, rfl, (T t).1⟩
  | cell a t =>
    obtain ⟨p, hp, h1⟩ := obind_eq hr
    obtain ⟨cells, hc, h2⟩ := obind_eq h1
    have hp := ptrOf_eq hp
    have ha := (T a).1
    rw [hp] at ha
    obtain ⟨A, hA, sp, e, he, e1, e2⟩ := ha.ptr_inv
    have hA' : A = ⟨e.blk, e.base + p.off, none⟩ := by obtain ⟨b, o, s⟩ := A; simp only at sp e1 e2; subst sp; subst e1; subst e2; rfl
    obtain ⟨V, hV, hv⟩ := loadVar_sim hOk.ok0 H he hc h2
    exact ⟨V, by simp [readVar, hA, asAddr, hA', hV], hv⟩
theorem readVars_sim {good : Code → Prop} (H : HRel good w0 μ h w) {τ : List (List Value)} {tmps : Array Value} (T : TRel μ τ tmps) : ∀ {l : List ResultVar} {vs : List Value}, readResults C τ h l = some vs →
    ∃ VS, (l.mapM (readVar tmps)).run C.P w = .ok VS w ∧ VRels μ vs VS
  | [], vs, hr => by
    have : vs = [] := by simpa [readResults, lrec_nil] using hr.symm
    subst this
    exact ⟨[], by simp, .nil⟩
  | r :: l, vs, hr => by
    have hr : (obind (readResult C τ h r) fun v => obind (readResults C τ h l) fun l => some (v :: l)) = some vs := hr
    obtain ⟨v, hv, h1⟩ := obind_eq hr
    obtain ⟨vs', hvs, h2⟩ := obind_eq h1
    simp at h2; subst h2
    obtain ⟨V, hV, rV⟩ := readVar_sim hOk H T hv
    obtain ⟨VS, hVS, rVS⟩ := readVars_sim H T hvs
    exact ⟨V :: VS, by simp [List.mapM_cons, hV, hVS], .cons rV rVS⟩
theorem results_sim {good : Code → Prop} (H : HRel good w0 μ h w) {τ : List (List Value)} {tmps : Array Value} (T : TRel μ τ tmps) {fn : Func} {vs : List Value} (hr : readResults C τ h fn.results.toList = some vs) :
    ∃ V, (results fn tmps).run C.P w = .ok V w ∧ VRel μ (packResults vs) V := by
  obtain ⟨VS, hVS, hv⟩ := readVars_sim hOk H T hr
  have e : results fn tmps = (do
      let vs ← fn.results.mapM (readVar tmps)
      pure (if h : vs.size = 1 then vs[0] else .tuple vs)) := by
    unfold results
    congr 1
  rw [e]
  simp only [Array.mapM_eq_mapM_toList, Sem.run_bind]
  have : ((Functor.map List.toArray (List.mapM (readVar tmps) fn.results.toList) : Sem (Array Value))).run C.P w = .ok VS.toArray w := by simp [hVS]
  rw [this]
  simp only [Result.andThen_ok, Sem.run_pure, List.size_toArray]
  cases vs with
  | nil =>
    obtain rfl := hv.nil_inv
    exact ⟨_, rfl, .tup' .nil⟩
  | cons v vs =>
    obtain ⟨V, VS', rfl, h1, h2⟩ := hv.cons_inv
    cases vs with
    | nil =>
      obtain rfl := h2.nil_inv
      exact ⟨V, rfl, h1⟩
    | cons v' vs =>
      obtain ⟨V', VS'', rfl, h3, h4⟩ := h2.cons_inv
      exact ⟨.tuple (V :: V' :: VS'').toArray, by simp, .tup' (.cons h1 (.cons h3 h4))⟩
end
def MRel (μ : Mu) (m : Option Value) (M : FrameMode) : Prop :=
  match m with
  | none => M = .returning
  | some v => ∃ V, VRel μ v V ∧ M = .panicking [{ v := V, recovered := false }]
theorem MRel.mono {μ μ' : Mu} (hle : μ.le μ') {m : Option Value} {M : FrameMode} (h : MRel μ m M) : MRel μ' m M := by
  cases m with
  | none => exact h
  | some v => obtain ⟨V, h1, h2⟩ := h; exact ⟨V, h1.mono hle, h2⟩
section
variable {P : Program} {b : Frame} {t : Array Value} {d : List Deferred} {k : List Item} {cs : List Frame} {w : World}
theorem st_leave {j : Option Code} {todo : List Item} (hr : b.roundOf = none) (hj : j = none ∨ j = some .ret) (hl : AtLeave j todo) :
    Go.step P (lone (frm b t d todo) cs w) = .next (lone { frm b t d todo with mode := .returning } cs w) := by
  rcases hj with rfl | rfl
  · have : todo = [] := hl
    subst this
    exact step_lone_go (by simp [stepG, stepG.exec, frm, hr])
  · obtain ⟨k, rfl⟩ := hl
    exact step_lone_go (by simp [stepG, stepG.exec, frm, hr])
theorem leave_mode {r : FEnd} {m : Option Value} {μ : Mu} {M0 : Machine} (hr : b.roundOf = none) (hm : endMode r = some m) (he : EndsAt P M0 b t d cs w μ r) :
    ∃ todo M, MRel μ m M ∧ Steps P M0 (lone { frm b t d todo with mode := M } cs w) := by
  cases r with
  | panic v =>
    simp [endMode] at hm; subst hm
    obtain ⟨todo, V, h1, h2⟩ := he
    exact ⟨todo, _, ⟨V, h1, rfl⟩, h2⟩
  | ended j =>
    obtain ⟨todo, h1, h2⟩ := he
    have hj : (j = none ∨ j = some .ret) ∧ m = none := by
      unfold endMode at hm
      split at hm <;> simp_all
    obtain ⟨hj, rfl⟩ := hj
    exact ⟨todo, .returning, rfl, h2.trans (.one (st_leave hr hj h1))⟩
end
section
variable {C : Ctx} {gd : List Oper → Bool} {w0 : World} (hOk : C.Ok gd w0) {self : Self} (hS : SelfOK C gd w0 self)
include hOk hS
omit hOk hS in
theorem enter_eq {P : Program} {f : FuncId} {fn : Func} {c : Code} {ARGS : Array Value} {kind : CallKind} (hf : P.funcs[f]? = some fn) (hc : fn.body = some c) :
    Frame.enter P f ARGS kind = frm { (default : Frame) with fn := f, kind := kind, roundOf := none } (ARGS ++ Array.replicate (fn.ntmps - ARGS.size) undef) [] [.code c] := by
  simp [Frame.enter, frm, hf, hc]
theorem body_sim {f : FuncId} {fn : Func} {args : List Value} {ARGS : Array Value} {kind : CallKind} {pan : Option Value} {μ : Mu} {h : Heap} {w : World} {r : FEnd × FrS × Heap} {m : Option Value} {cs : List Frame}
    (hF : C.F.get f = some fn) (hb : bodyOf self fn args pan h = some r) (hm : endMode r.1 = some m) (hA : VRels μ args ARGS.toList) (H : HRel (goodP C gd) w0 μ h w) (G : GRel C μ) (N : PanRel μ kind cs pan) :
    ∃ s2 μ' w' tmps' ds' cs' todo M b, Near r.1 r.2.1 s2 ∧ b.fn = f ∧ b.kind = kind ∧ b.roundOf = none ∧ Aft C gd w0 μ h.next ⟨[], [], pan⟩ cs none b s2 r.2.2 μ' tmps' ds' cs' w' ∧ MRel μ' m M ∧
      Steps C.P (lone (Frame.enter C.P f ARGS kind) cs w) (lone { frm b tmps' ds' todo with mode := M } cs' w') := by
  obtain ⟨c, hc, h1⟩ := obind_eq hb
  obtain ⟨hf, hname, hgood⟩ := hOk.F f fn hF
  rw [enter_eq hf hc]
  have hsz : args.length = ARGS.size := by have := hA.1; simpa using this
  have T : TRel μ (mkTmps (args ++ List.replicate (fn.ntmps - args.length) undef)) (ARGS ++ Array.replicate (fn.ntmps - ARGS.size) undef) := by
    refine TRel.mk' ?_
    have : (ARGS ++ Array.replicate (fn.ntmps - ARGS.size) undef).toList = ARGS.toList ++ List.replicate (fn.ntmps - args.length) undef := by simp [hsz]
    rw [this]
    refine hA.append ⟨rfl, fun i v V a b => ?_⟩
    rw [a] at b; simp at b; subst b
    have := List.mem_of_getElem? a
    have hu := List.eq_of_mem_replicate this
    rw [hu]
    exact .tup' .nil
  have S : St C gd w0 μ ⟨mkTmps (args ++ List.replicate (fn.ntmps - args.length) undef), [], pan⟩ h none { (default : Frame) with fn := f, kind := kind, roundOf := none } (ARGS ++ Array.replicate (fn.ntmps - ARGS.size) undef) [] cs w :=
    ⟨H, T, trivial, trivial, N, G⟩
  obtain ⟨s2, μ', w', tmps', ds', cs', nr, A, E⟩ := hS _ _ _ _ r.1 r.2.1 r.2.2 h1 (goodItems.cons (hgood c hc) (fun x hx => by simp at hx)) μ w _ cs _ _ S
  obtain ⟨todo, M, hM, hs⟩ := leave_mode rfl hm E
  exact ⟨s2, μ', w', tmps', ds', cs', todo, M, _, nr, rfl, rfl, rfl, ⟨A.le, A.fresh, A.nx, A.st, A.pan⟩, hM, hs⟩
end
end Go.Am

namespace Go.Am
open Go
theorem callFunc_run {P : Program} {f : FuncId} {fn : Func} (hf : P.funcs[f]? = some fn) (hn : fn.name ≠ "runtime.NumGoroutine") (hb : fn.body.isSome = true) (ARGS : Array Value) (w : World) :
    (callFunc f ARGS).run P w = .ok (.enter f ARGS) w := by
  have hb' : fn.body ≠ none := by intro e; rw [e] at hb; simp at hb
  simp [callFunc, hf, hn, hb']
section
variable {C : Ctx} {gd : List Oper → Bool} {w0 : World} (hOk : C.Ok gd w0) {self : Self} (hS : SelfOK C gd w0 self)
include hOk hS
theorem defer1_sim {d D : Deferred} {m : Option Value} {h : Heap} {q : Option Value × Heap} (hq : runDefer1 C self d m h = some q) {μ : Mu} {w : World} (hd : DRel μ d D) (H : HRel (goodP C gd) w0 μ h w) (G : GRel C μ)
    {F0 : Frame} {DS : List Deferred} {M : FrameMode} {cs : List Frame} (hM : MRel μ m M) :
    ∃ μ' w' M', μ.le μ' ∧ Fresh h.next μ μ' ∧ h.next ≤ q.2.next ∧ HRel (goodP C gd) w0 μ' q.2 w' ∧ MRel μ' q.1 M' ∧
      Steps C.P (lone { F0 with defers := D :: DS, mode := M } cs w) (lone { F0 with defers := DS, mode := M' } cs w') := by
  obtain ⟨t, a⟩ := d
  have hMr : M ≠ .run := by
    cases m with
    | none => intro e; rw [show M = .returning from hM] at e; simp at e
    | some v => obtain ⟨V, _, e⟩ := hM; rw [e]; simp
  cases t with
  | collected b =>
    simp only [runDefer1] at hq
    obtain ⟨o, ho, h1⟩ := obind_eq hq
    obtain ⟨h2, h3⟩ := guardB_eq h1
    simp at h3; subst h3
    obtain ⟨e, he, hT⟩ := hd
    have : o = .deferred true := by
      cases o <;> simp [isDeferred] at h2
      subst h2; rfl
    subst this
    obtain ⟨hge, hob⟩ := H.obj b e _ he ho
    have hob : w.heap[e.blk]? = some (.deferred (some [])) := hob
    obtain ⟨DT, DA⟩ := D
    simp only at hT
    subst hT
    have hrun : (Instr.takeDeferred e.blk).run C.P w = .ok [] { w with heap := w.heap.setIfInBounds e.blk (.deferred none) } := by
      simp [Instr.takeDeferred, getObj_of rfl hob, setObj_of rfl hob]
    refine ⟨μ, _, M, fun _ _ a => a, Fresh.refl _ _, Nat.le_refl _, H.turned he ho rfl rfl (Turned.setObj hob) ⟨hge, rfl⟩, hM, .one (step_lone_go ?_)⟩
    cases M with
    | run => exact absurd rfl hMr
    | returning => simp [stepG, unwind, hrun]
    | panicking ch => simp [stepG, unwind, hrun]
  | fn f cap =>
    cases f with
    | func g =>
      simp only [runDefer1] at hq
      cases hA : C.A g with
      | some sp => rw [hA] at hq; simp at hq
      | none =>
        rw [hA] at hq
        obtain ⟨res, hres, hret⟩ := obind_eq hq
        obtain ⟨fn, hF, h1⟩ := obind_eq hres
        obtain ⟨r, hb, h2⟩ := obind_eq h1
        obtain ⟨h3, h4⟩ := guardB_eq h2
        obtain ⟨m1, hm1, h5⟩ := obind_eq h4
        cases m1 with
        | some v => simp [endCall] at h5; subst h5; simp [retOf] at hret
        | none =>
          obtain ⟨vs, hvs, h6⟩ := obind_eq h5
          simp at h6; subst h6
          simp [retOf] at hret; subst hret
          obtain ⟨gg, Cap, hT, hfn, hcap, hargs⟩ := hd
          cases hfn
          obtain ⟨DT, DA⟩ := D
          simp only at hT hargs
          subst hT
          obtain ⟨hf, hname, hgood⟩ := hOk.F g fn hF
          have hbody : fn.body.isSome = true := by
            obtain ⟨c, hc, _⟩ := obind_eq hb
            rw [hc]; rfl
          have hinv : (invoke (.fn (.func g) Cap) DA).run C.P w = .ok (.enter g (DA ++ Cap)) w := callFunc_run hf hname hbody _ w
          have s1 := step_defer (P := C.P) (fr := { F0 with defers := ⟨.fn (.func g) Cap, DA⟩ :: DS, mode := M }) (cs := cs) (w := w) (ds := DS) hMr rfl rfl hinv
          have hAA : VRels μ (a.toList ++ cap.toList) (DA ++ Cap).toList := by simpa using hargs.append hcap
          have N : PanRel μ .deferred ({ F0 with defers := DS, mode := M } :: cs) m := by
            cases m with
            | none =>
              have : M = .returning := hM
              subst this
              intro fr hk
              unfold tryRecover
              rw [hk]
            | some v =>
              obtain ⟨V, h1, h2⟩ := hM
              exact ⟨rfl, _, _, V, rfl, h1, h2⟩
          obtain ⟨s2, μ', w', tmps', ds', cs', todo, M', b, nr, e1, e2, e3, A, hM', hs⟩ := body_sim hOk hS hF hb hm1 hAA H G N
          have hs2 : s2 = r.2.1 := by
            rcases nr with e | ⟨v, e, _⟩
            · exact e
            · rw [e] at hm1; simp [endMode] at hm1
          subst hs2
          have hMM : M' = .returning := hM'
          subst hMM
          have hds : ds' = [] := by
            have : r.2.1.defers = [] := by
              revert h3
              cases r.2.1.defers <;> simp [noDefers]
            have D := A.st.D
            rw [this] at D
            exact D.nil_inv
          subst hds
          obtain ⟨V, hV, hvr⟩ := results_sim hOk A.st.H A.st.T hvs
          have hgo : ({ frm b tmps' [] todo with mode := .returning } : Frame).going C.P w' (.returned V) := ⟨rfl, rfl, fn, by rw [← e1] at hf; exact hf, hV⟩
          have hcs : ∃ c', cs' = c' :: cs ∧ ∃ M2, MRel μ' r.2.1.pan M2 ∧ ({ c' with mode := settle c'.mode } : Frame) = { F0 with defers := DS, mode := M2 } := by
            rcases A.pan with ⟨p1, p2⟩ | ⟨v, c, rest, V', p1, p2, p3, p4, p5⟩
            · refine ⟨_, p2, M, by rw [p1]; exact hM.mono A.le, ?_⟩
              have : settle M = M := by
                cases m with
                | none => rw [show M = .returning from hM]; rfl
                | some v => obtain ⟨V, _, e⟩ := hM; rw [e]; rfl
              simp only [this]
            · simp at p3
              obtain ⟨rfl, rfl⟩ := p3
              refine ⟨_, p5, .returning, by rw [p2]; rfl, rfl⟩
          obtain ⟨c', rfl, M2, hM2, hc'⟩ := hcs
          have s2 := step_going_returned (P := C.P) (fr := { frm b tmps' [] todo with mode := .returning }) (c := c') (cs := cs) e2 hgo
          rw [hc'] at s2
          exact ⟨μ', w', M2, A.le, A.fresh, A.nx, A.st.H, hM2, .head s1 (hs.trans (.one s2))⟩
    | _ => simp [runDefer1] at hq
  | _ => simp [runDefer1] at hq
theorem defers_sim : ∀ (ds : List Deferred) {m : Option Value} {h : Heap} {q : Option Value × Heap}, runDefers C self ds m h = some q → ∀ {μ : Mu} {w : World} {DS : List Deferred}, DRels μ ds DS → HRel (goodP C gd) w0 μ h w → GRel C μ →
    ∀ {F0 : Frame} {M : FrameMode} {cs : List Frame}, MRel μ m M →
    ∃ μ' w' M', μ.le μ' ∧ Fresh h.next μ μ' ∧ h.next ≤ q.2.next ∧ HRel (goodP C gd) w0 μ' q.2 w' ∧ MRel μ' q.1 M' ∧
      Steps C.P (lone { F0 with defers := DS, mode := M } cs w) (lone { F0 with defers := [], mode := M' } cs w')
  | [], m, h, q, hq, μ, w, DS, hd, H, G, F0, M, cs, hM => by
    obtain rfl := hd.nil_inv
    have : q = (m, h) := by simpa [runDefers, lrec_nil] using hq.symm
    subst this
    exact ⟨μ, w, M, fun _ _ a => a, Fresh.refl _ _, Nat.le_refl _, H, hM, .refl _ _⟩
  | d :: ds, m, h, q, hq, μ, w, DS, hd, H, G, F0, M, cs, hM => by
    have hq : (obind (runDefer1 C self d m h) fun q => runDefers C self ds q.1 q.2) = some q := hq
    obtain ⟨q1, h1, h2⟩ := obind_eq hq
    cases DS with
    | nil => exact hd.elim
    | cons D DS =>
      obtain ⟨μ1, w1, M1, a1, a2, a3, a4, a5, a6⟩ := defer1_sim hOk hS h1 (F0 := F0) (DS := DS) (cs := cs) hd.1 H G hM
      obtain ⟨μ2, w2, M2, b1, b2, b3, b4, b5, b6⟩ := defers_sim ds h2 (F0 := F0) (cs := cs) (hd.2.mono a1) a4 (G.mono a1) a5
      exact ⟨μ2, w2, M2, a1.trans b1, Fresh.trans a3 a2 b2, Nat.le_trans a3 b3, b4, b5, a6.trans b6⟩
theorem callF_sim {f : FuncId} {args : List Value} {h : Heap} {res : FRes} (hc : callF C self f args h = some res) {μ : Mu} {w : World} {ARGS : Array Value} (hA : VRels μ args ARGS.toList) (H : HRel (goodP C gd) w0 μ h w) (G : GRel C μ) :
    (∃ fn, C.P.funcs[f]? = some fn ∧ fn.name ≠ "runtime.NumGoroutine" ∧ fn.body.isSome = true) ∧ Calls C.P f ARGS w (CallPost C gd w0 μ h.next res) := by
  unfold callF at hc
  cases hsp : C.A f with
  | some sp =>
    rw [hsp] at hc
    obtain ⟨p1, p2⟩ := hOk.A f sp hsp
    exact ⟨p1, p2 μ h w args ARGS res H G hA hc⟩
  | none =>
    rw [hsp] at hc
    obtain ⟨fn, hF, h1⟩ := obind_eq hc
    obtain ⟨r, hb, h2⟩ := obind_eq h1
    obtain ⟨m, hm, h3⟩ := obind_eq h2
    obtain ⟨q, hq, h4⟩ := obind_eq h3
    obtain ⟨hf, hname, hgood⟩ := hOk.F f fn hF
    have hbody : fn.body.isSome = true := by
      obtain ⟨c, hc, _⟩ := obind_eq hb
      rw [hc]; rfl
    refine ⟨⟨fn, hf, hname, hbody⟩, fun cs => ?_⟩
    have N : PanRel μ .normal cs none := by
      intro fr hk
      unfold tryRecover
      rw [hk]
    obtain ⟨s2, μ1, w1, tmps1, ds1, cs1, todo, M1, b, nr, e1, e2, e3, A, hM, hs⟩ := body_sim hOk hS hF hb hm hA H G N
    have hn2 : q.1 = none → s2 = r.2.1 := by
      intro hqn
      rcases nr with e | ⟨v, e, a, _, _⟩
      · exact e
      · rw [e] at hm
        rw [a] at hq
        have hmv : m = some v := by simpa [endMode] using hm.symm
        have : q = (m, r.2.2) := by simpa [runDefers, lrec_nil] using hq.symm
        rw [this, hmv] at hqn
        simp at hqn
    rw [← nr.defers] at hq
    have hcs : cs1 = cs := by
      rcases A.pan with ⟨_, p2⟩ | ⟨v, c, rest, V', p1, _⟩
      · exact p2
      · simp at p1
    subst hcs
    obtain ⟨μ2, w2, M2, b1, b2, b3, b4, b5, b6⟩ := defers_sim hOk hS _ hq (F0 := frm b tmps1 ds1 todo) (cs := cs1) A.st.D A.st.H A.st.G hM
    have hs2 := hs.trans b6
    cases hq1 : q.1 with
    | some v =>
      rw [hq1] at h4 b5
      simp [endCall] at h4; subst h4
      obtain ⟨V, hV, rfl⟩ := b5
      exact ⟨.panicked [{ v := V, recovered := false }], w2, _, ⟨μ2, V, A.le.trans b1, Fresh.trans A.nx A.fresh b2, Nat.le_trans A.nx b3, b4, hV, rfl⟩, hs2, e1, rfl, rfl, fn, by rw [← e1] at hf; exact hf⟩
    | none =>
      rw [hq1] at h4 b5
      obtain ⟨vs, hvs, h5⟩ := obind_eq h4
      simp at h5; subst h5
      have : M2 = .returning := b5
      subst this
      have hs2 := hn2 hq1
      subst hs2
      obtain ⟨V, hV, hvr⟩ := results_sim hOk b4 (A.st.T.mono b1) hvs
      exact ⟨.returned V, w2, _, ⟨μ2, A.le.trans b1, Fresh.trans A.nx A.fresh b2, Nat.le_trans A.nx b3, b4, hvr⟩, hs2, e1, rfl, rfl, e2, fn, by rw [← e1] at hf; exact hf, hV⟩
end
end Go.Am
