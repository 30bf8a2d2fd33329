/- Parts K1, DN38, DN of the abstract machine over this program, joined: what each part says stands at its head. -/
import Derived.Test.YtfnllpibhjikgaaGreatDoorJK0
import Derived.Test.YtfnllpibhjikgaaGreatDoorJAm36
import Derived.Test.YtfnllpibhjikgaaGreatDoorJD37
import Derived.Test.YtfnllpibhjikgaaGreatDoorJD41
import Derived.Maps.RangeRun
set_option linter.unusedSimpArgs false
set_option linter.unusedVariables false
/- The abstract machine: frames walked at the model's side, where the order of a map's entries is open. -/
namespace Go.Am
open Go

section
variable {C : Ctx} {μ : Mu} {s : FrS} {h : Heap} {fr : Frame} {t : Array Value} {cs : List Frame} {w wb : World}

theorem SelfOK.lim (hOk : C.Ok drawOK wb) : SelfOK C drawOK wb (Lim C) := by
  intro rd k s h r s' h' hl gk
  obtain ⟨n, hn⟩ := Lim_to hl
  exact run_ok hOk n rd k s h r s' h' hn gk

/-- nothing that was there has changed -/
def Keeps (w w' : World) : Prop := w'.os = w.os ∧ w'.output = w.output ∧ w.heap.size ≤ w'.heap.size ∧ ∀ b, b < w.heap.size → w'.heap[b]? = w.heap[b]?
theorem Keeps.refl (w : World) : Keeps w w := ⟨rfl, rfl, Nat.le_refl _, fun _ _ => rfl⟩
theorem Keeps.trans {a b c : World} (h : Keeps a b) (h' : Keeps b c) : Keeps a c :=
  ⟨h'.1.trans h.1, h'.2.1.trans h.2.1, Nat.le_trans h.2.2.1 h'.2.2.1, fun i hi => (h'.2.2.2 i (Nat.lt_of_lt_of_le hi h.2.2.1)).trans (h.2.2.2 i hi)⟩
theorem HRel.keeps {good : Code → Prop} (H : HRel good wb μ h w) : Keeps wb w := ⟨H.os, H.output, H.size, H.old⟩

/-- how a frame that only looks comes to its end: it falls out of its code, or panics with a value -/
def WEnd (P : Program) (wb : World) (fr : Frame) (cs : List Frame) (M0 : Machine) (o : Option Value) : Prop :=
  ∃ t' w', Keeps wb w' ∧ match o with
    | none => Steps P M0 (lone (frm fr t' [] []) cs w')
    | some v => ∃ todo, Steps P M0 (lone { frm fr t' [] todo with mode := .panicking [{ v := v, recovered := false }] } cs w')
theorem WEnd.steps {P : Program} {M0 M1 : Machine} {o : Option Value} (hs : Steps P M0 M1) (q : WEnd P wb fr cs M1 o) : WEnd P wb fr cs M0 o := by
  obtain ⟨t', w', k, q⟩ := q
  refine ⟨t', w', k, ?_⟩
  cases o with
  | none => exact hs.trans q
  | some v => obtain ⟨todo, q⟩ := q; exact ⟨todo, hs.trans q⟩
theorem WEnd.base {P : Program} {M0 : Machine} {o : Option Value} {wb' : World} (hk : Keeps wb wb') (q : WEnd P wb' fr cs M0 o) : WEnd P wb fr cs M0 o := by
  obtain ⟨t', w', k, q⟩ := q
  exact ⟨t', w', hk.trans k, q⟩

/-- a region, walked by itself -/
theorem WEnd.region {wX : World} (hX : Keeps wX wb) (hOk : C.Ok drawOK wb) {n : Nat} {f : Nat → Value} (S : St C drawOK wb μ ⟨T n f, [], none⟩ h none fr t [] cs w) {id : Nat} {ops : Array Oper} {draw : Bool} {k : List Item} {o : Option Value} {Q1 : FEnd → FrS → Heap → Prop} (hg : goodRegion C drawOK ops.toList draw = true)
    (hw : W (Lim C none [.code (.region id ops draw)] ⟨T n f, [], none⟩ h) Q1)
    (hok : ∀ s1 h1, Q1 (.ended none) s1 h1 → s1.defers = [] ∧ ∀ μ1 w1 t1, μ.le μ1 → Fresh h.next μ μ1 → St C drawOK wb μ1 s1 h1 none fr t1 [] cs w1 → WEnd C.P wX fr cs (lone (frm fr t1 [] k) cs w1) o)
    (hp : ∀ v s1 h1, Q1 (.panic v) s1 h1 → s1.defers = [] ∧ o = some v ∧ ∀ ν V, VRel ν v V → V = v) : WEnd C.P wX fr cs (lone (frm fr t [] (.code (.region id ops draw) :: k)) cs w) o := by
  have hS := SelfOK.lim hOk
  have hD := draw_sound hOk hS
  obtain ⟨hg1, hg2⟩ := (Bool.and_eq_true _ _).mp hg
  have hgo : ∀ o ∈ ops.toList, goodOp C o = true := List.all_eq_true.1 hg1
  obtain ⟨r, s', h', hl, hq⟩ := hw
  rw [Lim_eq] at hl
  have hl : stRegion C (Lim C) none ops.toList [] ⟨T n f, [], none⟩ h draw = some (r, s', h') := hl
  have fin : ∀ {M1 : Machine} {ro : ORes}, afterOps (Lim C) none [] ro = some (r, s', h') → Steps C.P (lone (frm fr t [] (.code (.region id ops draw) :: k)) cs w) M1 → OAt C drawOK wb μ h.next ⟨T n f, [], none⟩ cs none fr M1 k ro →
      WEnd C.P wX fr cs (lone (frm fr t [] (.code (.region id ops draw) :: k)) cs w) o := by
    intro M1 ro ha hs hO
    cases ro with
    | ok s1 h1 =>
      obtain ⟨μ', w', t', d', cs', A, hs2⟩ := hO
      have ha : Lim C none [] s1 h1 = some (r, s', h') := ha
      rw [Lim_eq] at ha
      have ha : some (FEnd.ended none, s1, h1) = some (r, s', h') := ha
      simp at ha
      obtain ⟨rfl, rfl, rfl⟩ := ha
      obtain ⟨hd, hk⟩ := hok _ _ hq
      obtain rfl : cs' = cs := by
        rcases A.pan with ⟨_, p2⟩ | ⟨v, c, rest, V', p1, _⟩
        · exact p2
        · simp at p1
      have hD' := A.st.D
      rw [hd] at hD'
      obtain rfl := hD'.nil_inv
      exact (hk μ' w' t' A.le A.fresh A.st).steps (hs.trans hs2)
    | panic v s1 h1 =>
      have ha : some (FEnd.panic v, s1, h1) = some (r, s', h') := ha
      simp at ha
      obtain ⟨rfl, rfl, rfl⟩ := ha
      obtain ⟨s2, μ', w', t', d', cs', nr, A, todo, V, hV, E⟩ := hO
      obtain ⟨hd, rfl, hpl⟩ := hp _ _ _ hq
      obtain rfl : cs' = cs := by
        rcases A.pan with ⟨_, p2⟩ | ⟨v, c, rest, V', p1, _⟩
        · exact p2
        · simp at p1
      have hD' := A.st.D
      rw [nr.defers, hd] at hD'
      obtain rfl := hD'.nil_inv
      obtain rfl := hpl _ _ hV
      exact ⟨t', w', hX.trans A.st.H.keeps, todo, hs.trans E⟩
  cases draw with
  | false =>
    obtain ⟨ro, h1, h2⟩ := obind_eq hl
    have := ops_at (k := k) (rd := none) (b := fr) hOk hS hgo ops.toList [] rfl h1 S
    refine fin h2 (.one st_region) ?_
    have e : List.range ops.size = List.range' 0 ops.toList.length := by simp [List.range_eq_range']
    rw [e]
    exact this
  | true =>
    obtain ⟨ro, h1, h2⟩ := obind_eq hl
    have S1 : St C drawOK wb μ ⟨T n f, [], none⟩ h none fr t [] cs w.drew := ⟨S.H.quiet (Quiet.drew w), S.T, S.D, S.R, S.N, S.G⟩
    exact fin h2 (.one st_draw) (hD ops none _ h ro h1 hg2 hgo μ w.drew fr cs t [] k _ S1)
/-- one that goes on -/
theorem WEnd.go {wX : World} (hX : Keeps wX wb) (hOk : C.Ok drawOK wb) {n : Nat} {f : Nat → Value} (S : St C drawOK wb μ ⟨T n f, [], none⟩ h none fr t [] cs w) {id : Nat} {ops : Array Oper} {draw : Bool} {k : List Item} {o : Option Value} {R : (Nat → Value) → Prop} (h' : Heap) (hg : goodRegion C drawOK ops.toList draw = true)
    (hw : W (Lim C none [.code (.region id ops draw)] ⟨T n f, [], none⟩ h) fun r s1 h1 => r = .ended none ∧ h1 = h' ∧ ∃ f1, s1 = ⟨T n f1, [], none⟩ ∧ R f1)
    (hok : ∀ f1, R f1 → ∀ μ1 w1 t1, μ.le μ1 → Fresh h.next μ μ1 → St C drawOK wb μ1 ⟨T n f1, [], none⟩ h' none fr t1 [] cs w1 → WEnd C.P wX fr cs (lone (frm fr t1 [] k) cs w1) o) : WEnd C.P wX fr cs (lone (frm fr t [] (.code (.region id ops draw) :: k)) cs w) o :=
  WEnd.region hX hOk S hg hw (fun s1 h1 ⟨_, e, f1, e1, q⟩ => by subst e; subst e1; exact ⟨rfl, hok f1 q⟩) (fun v s1 h1 ⟨e, _⟩ => by cases e)
/-- one that panics -/
theorem WEnd.die {wX : World} (hX : Keeps wX wb) (hOk : C.Ok drawOK wb) {n : Nat} {f : Nat → Value} (S : St C drawOK wb μ ⟨T n f, [], none⟩ h none fr t [] cs w) {id : Nat} {ops : Array Oper} {draw : Bool} {k : List Item} {v : Value} (hpl : ∀ ν V, VRel ν v V → V = v) (hg : goodRegion C drawOK ops.toList draw = true)
    (hw : W (Lim C none [.code (.region id ops draw)] ⟨T n f, [], none⟩ h) fun r s1 _ => s1.defers = [] ∧ r = .panic v) : WEnd C.P wX fr cs (lone (frm fr t [] (.code (.region id ops draw) :: k)) cs w) (some v) :=
  WEnd.region hX hOk S hg hw (fun s1 h1 ⟨_, e⟩ => by cases e) (fun v' s1 h1 ⟨e, e'⟩ => by cases e'; exact ⟨e, rfl, hpl⟩)

/-- from a frame's walk to the call, of a function without results -/
theorem WEnd.calls (hOk : C.Ok drawOK wb) {f : FuncId} {fn : Func} {c : Code} {args : List Value} {ARGS : Array Value} (hF : C.F.get f = some fn) (hc : fn.body = some c) (hres : fn.results = #[]) (hA : VRels μ args ARGS.toList)
    (H : HRel (goodP C drawOK) wb μ h w) (G : GRel C μ) (hn : args.length ≤ fn.ntmps) {o : Option Value}
    (hw : ∀ fr cs t, St C drawOK wb μ ⟨T fn.ntmps (argsFn args), [], none⟩ h none fr t [] cs w → WEnd C.P wb fr cs (lone (frm fr t [] [.code c]) cs w) o) :
    Calls C.P f ARGS w fun e w' => Keeps wb w' ∧ e = match o with | none => .returned (.tuple #[]) | some v => .panicked [{ v := v, recovered := false }] := by
  obtain ⟨hf, hname, hgood⟩ := hOk.F f fn hF
  intro cs
  rw [enter_eq hf hc]
  have N : PanRel μ .normal cs none := by
    intro fr hk
    unfold tryRecover
    rw [hk]
  have hsz : args.length = ARGS.size := by have := hA.1; simpa using this
  have TR : TRel μ (T fn.ntmps (argsFn args)) (ARGS ++ Array.replicate (fn.ntmps - ARGS.size) undef) := by
    rw [← mkTmps_T args fn.ntmps hn]
    refine TRel.mk' ?_
    have : (ARGS ++ Array.replicate (fn.ntmps - ARGS.size) undef).toList = ARGS.toList ++ List.replicate (fn.ntmps - args.length) undef := by simp [hsz]
    rw [this]
    refine hA.append ⟨rfl, fun i v V a b => ?_⟩
    rw [a] at b; simp at b; subst b
    have := List.mem_of_getElem? a
    have hu := List.eq_of_mem_replicate this
    rw [hu]
    exact .tup' .nil
  obtain ⟨t', w', hk, q⟩ := hw { (default : Frame) with fn := f, kind := .normal, roundOf := none } cs _ ⟨H, TR, trivial, trivial, N, G⟩
  cases o with
  | none =>
    have hV : (results fn t').run C.P w' = .ok (.tuple #[]) w' := by unfold results; rw [hres]; simp
    exact ⟨.returned (.tuple #[]), w', _, ⟨hk, rfl⟩, q.trans (.one (st_leave rfl (.inl rfl) rfl)), rfl, rfl, rfl, rfl, fn, hf, hV⟩
  | some v =>
    obtain ⟨todo, q⟩ := q
    exact ⟨.panicked [{ v := v, recovered := false }], w', _, ⟨hk, rfl⟩, q, rfl, rfl, rfl, fn, hf⟩
end

/- ANOTHER BASE: what is there may only be read -/
noncomputable def frozenO : AObj → AObj
  | .row c s _ => .row c s false
  | _ => .dead
theorem frozen_own (o : AObj) : (frozenO o).own = false := by cases o <;> rfl
noncomputable def NT.mapT {α β : Type} (f : α → β) (t : NT α) : NT β := NT.rec (motive := fun _ => NT β) .nil (fun _ o _ l r => .node l (o.map f) r) t
theorem NT.get_mapT {α β : Type} (f : α → β) (t : NT α) : ∀ n, (t.mapT f).get n = (t.get n).map f := by
  induction t with
  | nil => intro n; rfl
  | node l o r ihl ihr =>
    intro n
    show (NT.node (l.mapT f) (o.map f) (r.mapT f)).get n = _
    cases n with
    | zero => rfl
    | succ m =>
      rw [NT.get_succ, NT.get_succ]
      split
      · exact ihl _
      · exact ihr _
theorem NT.bound {α : Type} (t : NT α) : ∃ N, ∀ i, N ≤ i → t.get i = none := by
  induction t with
  | nil => exact ⟨0, fun i _ => rfl⟩
  | node l o r ihl ihr =>
    obtain ⟨N, hN⟩ := ihl
    obtain ⟨M, hM⟩ := ihr
    refine ⟨2 * N + 2 * M + 2, fun i hi => ?_⟩
    cases i with
    | zero => omega
    | succ m =>
      rw [NT.get_succ]
      split
      · exact hN _ (by omega)
      · exact hM _ (by omega)
theorem freeze {good good' : Code → Prop} {w0 : World} {μ : Mu} {h : Heap} {w : World} (H : HRel good w0 μ h w) : ∃ hf : Heap, HRel good' w μ hf w ∧ HOK hf ∧ (∀ i, hf.get i = (h.get i).map frozenO) := by
  obtain ⟨N, hN⟩ := NT.bound h.tree
  have hget : ∀ i, (Heap.mk (max N h.next) (h.tree.mapT frozenO)).get i = (h.get i).map frozenO := fun i => NT.get_mapT _ _ _
  refine ⟨⟨max N h.next, h.tree.mapT frozenO⟩, ⟨rfl, rfl, Nat.le_refl _, fun _ _ => rfl, ?_, ?_, ?_, ?_⟩, ?_, hget⟩
  · intro i e hi
    have := H.dom i e hi
    exact ⟨Nat.lt_of_lt_of_le this.1 (Nat.le_max_right _ _), this.2⟩
  · exact Nat.lt_of_lt_of_le H.pos (Nat.le_max_right _ _)
  · intro i e o hi ho
    rw [hget] at ho
    cases hg : h.get i with
    | none => rw [hg] at ho; simp at ho
    | some x =>
      rw [hg] at ho
      simp at ho; subst ho
      have := H.obj i e x hi hg
      cases x with
      | row cs z bw => obtain ⟨C, el, fz, q1, q2, q3, q4, q5, _⟩ := this; exact ⟨C, el, fz, q1, q2, q3, q4, q5, fun hx => by simp at hx⟩
      | _ => trivial
  · intro i j e f o p _ _ _ ho _ hown
    rw [hget] at ho
    cases hg : h.get i with
    | none => rw [hg] at ho; simp at ho
    | some x => rw [hg] at ho; simp at ho; subst ho; rw [frozen_own] at hown; simp at hown
  · intro i hi
    rw [hget]
    have : h.get i = none := hN i (Nat.le_trans (Nat.le_max_left _ _) hi)
    rw [this]; rfl
end Go.Am

/- Facts of the program's types. Printed by mk_facts.py. -/
namespace Go.Am.NB
open Go Go.Proofs

theorem size_3 : CB.size 3 = some 1 := by kernel_rfl
theorem part_3 (l : List Value) (p : Nat) : partOf CB 3 l p = l[p]? := part_one' (by kernel_rfl) l p
theorem ld_3 (b p : Nat) (sp : Option Nat) (h : Heap) : aLoad CB 3 (.pointer (some ⟨b, p, sp⟩)) h = obind (rowAt h b) fun l => l[p]? := load_one (by kernel_rfl) b p sp h
theorem size_23 : CB.size 23 = some 1 := by kernel_rfl
theorem zero_23 : CB.zero 23 = some (.slice none 0 0) := by kernel_rfl
theorem und_23 : CB.und 23 = some (.slice 3) := by kernel_rfl
theorem ld_23 (b p : Nat) (sp : Option Nat) (h : Heap) : aLoad CB 23 (.pointer (some ⟨b, p, sp⟩)) h = obind (rowAt h b) fun l => l[p]? := load_one (by kernel_rfl) b p sp h
theorem len_23 (p : Option Addr) (n m : Nat) (h : Heap) : aLen CB 23 (.slice p n m) h = some (.int .i64 n) := M_len_slice CB 23 h p n m _ und_23
theorem size_44 : CB.size 44 = some 2 := by kernel_rfl
theorem zero_44 : CB.zero 44 = some (.agg ⟨[.int .i64 0, .int .i64 0]⟩) := by kernel_rfl
theorem ld_44 (b p : Nat) (sp : Option Nat) (h : Heap) : aLoad CB 44 (.pointer (some ⟨b, p, sp⟩)) h = obind (rowAt h b) fun l => obind (take? l p 2) fun l => some (mkAgg l) := load_agg (by kernel_rfl) size_44 b p sp h
theorem fld_44_0 : CB.fieldAt 44 0 = some (0, 3, 1) := by kernel_rfl
theorem fp_44_0 (b p : Nat) (sp : Option Nat) : aFieldAddr CB 44 (.pointer (some ⟨b, p, sp⟩)) 0 = some (.val (.pointer (some ⟨b, p + 0, none⟩))) := fieldAddr_at fld_44_0 rfl b p sp
theorem fld_44_1 : CB.fieldAt 44 1 = some (1, 3, 1) := by kernel_rfl
theorem fp_44_1 (b p : Nat) (sp : Option Nat) : aFieldAddr CB 44 (.pointer (some ⟨b, p, sp⟩)) 1 = some (.val (.pointer (some ⟨b, p + 1, none⟩))) := fieldAddr_at fld_44_1 rfl b p sp
theorem size_55 : CB.size 55 = some 1 := by kernel_rfl
theorem zero_55 : CB.zero 55 = some (.slice none 0 0) := by kernel_rfl
theorem und_55 : CB.und 55 = some (.slice 170) := by kernel_rfl
theorem ld_55 (b p : Nat) (sp : Option Nat) (h : Heap) : aLoad CB 55 (.pointer (some ⟨b, p, sp⟩)) h = obind (rowAt h b) fun l => l[p]? := load_one (by kernel_rfl) b p sp h
theorem fld_57_2 : CB.fieldAt 57 2 = some (2, 55, 1) := by kernel_rfl
theorem fp_57_2 (b p : Nat) (sp : Option Nat) : aFieldAddr CB 57 (.pointer (some ⟨b, p, sp⟩)) 2 = some (.val (.pointer (some ⟨b, p + 2, none⟩))) := fieldAddr_at fld_57_2 rfl b p sp
theorem size_63 : CB.size 63 = some 1 := by kernel_rfl
theorem zero_63 : CB.zero 63 = some (.slice none 0 0) := by kernel_rfl
theorem und_63 : CB.und 63 = some (.slice 175) := by kernel_rfl
theorem ld_63 (b p : Nat) (sp : Option Nat) (h : Heap) : aLoad CB 63 (.pointer (some ⟨b, p, sp⟩)) h = obind (rowAt h b) fun l => l[p]? := load_one (by kernel_rfl) b p sp h
theorem fld_66_1 : CB.fieldAt 66 1 = some (1, 63, 1) := by kernel_rfl
theorem fp_66_1 (b p : Nat) (sp : Option Nat) : aFieldAddr CB 66 (.pointer (some ⟨b, p, sp⟩)) 1 = some (.val (.pointer (some ⟨b, p + 1, none⟩))) := fieldAddr_at fld_66_1 rfl b p sp
theorem fld_68_3 : CB.fieldAt 68 3 = some (15, 57, 3) := by kernel_rfl
theorem fp_68_3 (b p : Nat) (sp : Option Nat) : aFieldAddr CB 68 (.pointer (some ⟨b, p, sp⟩)) 3 = some (.val (.pointer (some ⟨b, p + 15, none⟩))) := fieldAddr_at fld_68_3 rfl b p sp
theorem fld_68_6 : CB.fieldAt 68 6 = some (32, 66, 3) := by kernel_rfl
theorem fp_68_6 (b p : Nat) (sp : Option Nat) : aFieldAddr CB 68 (.pointer (some ⟨b, p, sp⟩)) 6 = some (.val (.pointer (some ⟨b, p + 32, none⟩))) := fieldAddr_at fld_68_6 rfl b p sp
theorem size_124 : CB.size 124 = some 1 := by kernel_rfl
theorem zero_124 : CB.zero 124 = some (.agg ⟨[.string ⟨⟨[]⟩⟩]⟩) := by kernel_rfl
theorem fld_124_0 : CB.fieldAt 124 0 = some (0, 9, 1) := by kernel_rfl
theorem ld_133 (b p : Nat) (sp : Option Nat) (h : Heap) : aLoad CB 133 (.pointer (some ⟨b, p, sp⟩)) h = obind (rowAt h b) fun l => l[p]? := load_one (by kernel_rfl) b p sp h
theorem fld_135_0 : CB.fieldAt 135 0 = some (0, 68, 35) := by kernel_rfl
theorem fp_135_0 (b p : Nat) (sp : Option Nat) : aFieldAddr CB 135 (.pointer (some ⟨b, p, sp⟩)) 0 = some (.val (.pointer (some ⟨b, p + 0, none⟩))) := fieldAddr_at fld_135_0 rfl b p sp
theorem fld_135_4 : CB.fieldAt 135 4 = some (38, 133, 1) := by kernel_rfl
theorem fp_135_4 (b p : Nat) (sp : Option Nat) : aFieldAddr CB 135 (.pointer (some ⟨b, p, sp⟩)) 4 = some (.val (.pointer (some ⟨b, p + 38, none⟩))) := fieldAddr_at fld_135_4 rfl b p sp
theorem fld_135_6 : CB.fieldAt 135 6 = some (40, 23, 1) := by kernel_rfl
theorem fp_135_6 (b p : Nat) (sp : Option Nat) : aFieldAddr CB 135 (.pointer (some ⟨b, p, sp⟩)) 6 = some (.val (.pointer (some ⟨b, p + 40, none⟩))) := fieldAddr_at fld_135_6 rfl b p sp
theorem fld_154_0 : CB.fieldAt 154 0 = some (0, 3, 1) := by kernel_rfl
theorem fp_154_0 (b p : Nat) (sp : Option Nat) : aFieldAddr CB 154 (.pointer (some ⟨b, p, sp⟩)) 0 = some (.val (.pointer (some ⟨b, p + 0, none⟩))) := fieldAddr_at fld_154_0 rfl b p sp
theorem fld_154_1 : CB.fieldAt 154 1 = some (1, 3, 1) := by kernel_rfl
theorem fp_154_1 (b p : Nat) (sp : Option Nat) : aFieldAddr CB 154 (.pointer (some ⟨b, p, sp⟩)) 1 = some (.val (.pointer (some ⟨b, p + 1, none⟩))) := fieldAddr_at fld_154_1 rfl b p sp
theorem size_170 : CB.size 170 = some 5 := by kernel_rfl
theorem part_170 (l : List Value) (p : Nat) : partOf CB 170 l p = obind (take? l p 5) fun l => some (mkAgg l) := part_agg' (by kernel_rfl) size_170 l p
theorem fld_170_0 : CB.fieldAt 170 0 = some (0, 3, 1) := by kernel_rfl
theorem fp_170_0 (b p : Nat) (sp : Option Nat) : aFieldAddr CB 170 (.pointer (some ⟨b, p, sp⟩)) 0 = some (.val (.pointer (some ⟨b, p + 0, none⟩))) := fieldAddr_at fld_170_0 rfl b p sp
theorem size_175 : CB.size 175 = some 5 := by kernel_rfl
theorem part_175 (l : List Value) (p : Nat) : partOf CB 175 l p = obind (take? l p 5) fun l => some (mkAgg l) := part_agg' (by kernel_rfl) size_175 l p
theorem fld_175_2 : CB.fieldAt 175 2 = some (2, 44, 2) := by kernel_rfl
theorem fp_175_2 (b p : Nat) (sp : Option Nat) : aFieldAddr CB 175 (.pointer (some ⟨b, p, sp⟩)) 2 = some (.val (.pointer (some ⟨b, p + 2, none⟩))) := fieldAddr_at fld_175_2 rfl b p sp
theorem ix_23 (b o : Nat) (sp : Option Nat) (len cap i : Nat) (hi : i < len) : aIndexAddr CB 23 (.slice (some ⟨b, o, sp⟩) len cap) (.int .i64 i) = some (.pointer (some ⟨b, o + i * 1, none⟩)) := ix_slice und_23 size_3 b o sp len cap i hi
theorem ix_55 (b o : Nat) (sp : Option Nat) (len cap i : Nat) (hi : i < len) : aIndexAddr CB 55 (.slice (some ⟨b, o, sp⟩) len cap) (.int .i64 i) = some (.pointer (some ⟨b, o + i * 5, none⟩)) := ix_slice und_55 size_170 b o sp len cap i hi
theorem ix_63 (b o : Nat) (sp : Option Nat) (len cap i : Nat) (hi : i < len) : aIndexAddr CB 63 (.slice (some ⟨b, o, sp⟩) len cap) (.int .i64 i) = some (.pointer (some ⟨b, o + i * 5, none⟩)) := ix_slice und_63 size_175 b o sp len cap i hi
theorem sp_124_0 : structPlace CB 124 0 = some (0, 1) := place_struct fld_124_0
theorem bld_124 (p : List (Nat × Value)) : aBuild CB 124 p = obind (fillWith (structPlace CB 124) p [.string ⟨⟨[]⟩⟩]) fun l => some (mkAgg l) := build_struct (by kernel_rfl) zero_124 p
theorem mi_124 (v : Value) : aMakeIface CB 124 v = some (.val (.iface 124 v)) := make_iface (by kernel_rfl) v
end Go.Am.NB


/- Hours that are noted: the one function that ranges over a map does what its specification says, in whatever order the entries come. -/
namespace Go.Am.NB
open Go Go.Proofs

theorem in_day (x lo hi : Int) (h : Heap) : callF CB (Lim CB) 49 [.int .i64 x, .int .i64 lo, .int .i64 hi] h = some (.ret (.bool (inP x lo hi)) h none) := by
  refine CW.eq (CW_in Tryz.f49 (by kernel_rfl) (by kernel_rfl) rfl rfl ?_)
  simp only [Tryz.f49]
  by_cases h1 : x ≥ lo
  · simp (maxDischargeDepth := 30) only [AMS, AMH, ↓reduceIte, Nat.reduceLT, Nat.reduceEqDiff, Nat.reduceAdd, Nat.reduceMul, reduceCtorEq, decide_true, decide_false, Nat.reduceLeDiff, Int.reduceNe, Int.reduceEq, ne_eq, not_false_eq_true, and_self, h1]
    simp [inP, show lo ≤ x from h1]
  · simp (maxDischargeDepth := 30) only [AMS, AMH, ↓reduceIte, Nat.reduceLT, Nat.reduceEqDiff, Nat.reduceAdd, Nat.reduceMul, reduceCtorEq, decide_true, decide_false, Nat.reduceLeDiff, Int.reduceNe, Int.reduceEq, ne_eq, not_false_eq_true, and_self, h1]
    simp [inP, show ¬ lo ≤ x from h1]
theorem must_ok (l : Value) (h : Heap) : callF CB (Lim CB) 56 [.bool true, l] h = some (.ret (mkTup []) h none) := by
  refine CW.eq (CW_in Tryz.f56 (by kernel_rfl) (by kernel_rfl) rfl rfl ?_)
  simp only [Tryz.f56]
  simp (maxDischargeDepth := 30) only [AMS, AMH, ↓reduceIte, Nat.reduceLT, Nat.reduceEqDiff, Nat.reduceAdd, Nat.reduceMul, reduceCtorEq, decide_true, decide_false, Nat.reduceLeDiff, Int.reduceNe, Int.reduceEq, ne_eq, not_false_eq_true, and_self, bld_124, fld_124_0, mi_124, size_124, sp_124_0, zero_124, Post_end]
  exact ⟨rfl, trivial⟩
theorem must_no (l : List UInt8) (h : Heap) : CX CB 56 [.bool false, mkStr l] h (fun _ _ => False) fun v h' => v = refusal l ∧ h' = h := by
  refine CX_in Tryz.f56 (by kernel_rfl) (by kernel_rfl) rfl rfl ?_
  simp only [Tryz.f56]
  simp (maxDischargeDepth := 30) only [AMS, AMH, ↓reduceIte, Nat.reduceLT, Nat.reduceEqDiff, Nat.reduceAdd, Nat.reduceMul, reduceCtorEq, decide_true, decide_false, Nat.reduceLeDiff, Int.reduceNe, Int.reduceEq, ne_eq, not_false_eq_true, and_self, bld_124, fld_124_0, mi_124, size_124, sp_124_0, zero_124, O_panic, ROr_panic, mkStr, PostX_panic]
  exact ⟨rfl, trivial⟩

theorem must_w (l : Value) (h : Heap) : CW CB 56 [.bool true, l] h fun _ h' => h' = h := ⟨_, _, must_ok l h, rfl⟩
theorem in_w (x lo hi : Int) (h : Heap) : CW CB 49 [.int .i64 x, .int .i64 lo, .int .i64 hi] h fun r h' => r = .bool (inP x lo hi) ∧ h' = h := ⟨_, _, in_day x lo hi h, rfl, rfl⟩

/-- what the frame holds behind its start -/
def At (a : Addr) (N : Nat) (f : Nat → Value) : Prop := f 1 = .pointer (some a) ∧ f 2 = .pointer (some ⟨N, 0, none⟩)
theorem refusal_plain (l : List UInt8) (ν : Mu) (V : Value) (h : VRel ν (refusal l) V) : V = refusal l := by
  obtain ⟨U, rfl, h1⟩ := h.iface_inv
  obtain ⟨Xs, rfl, h2⟩ := h1.agg_inv
  obtain ⟨X, L, hL, h3, h4⟩ := VRels.cons_inv (v := mkStr l) (l := []) h2
  have := h4.nil_inv
  subst this
  have hX := h3.string_inv
  subst hX
  have : Xs = #[mkStr l] := Array.ext' (by rw [hL]; rfl)
  rw [this]; rfl

noncomputable def tlC : Code → Code
  | .seq _ b => b
  | c => c
theorem take_two {l : List Value} {o : Nat} {x y : Value} (h1 : l[o]? = some x) (h2 : l[o + 1]? = some y) : take? l o 2 = some [x, y] := by
  have a := (List.getElem?_eq_some_iff.1 h2)
  obtain ⟨b, c⟩ := (List.getElem?_eq_some_iff.1 h1)
  obtain ⟨a, d⟩ := a
  rw [take?_some (by omega)]
  rw [List.drop_eq_getElem_cons b, List.drop_eq_getElem_cons a, c, d]
  rfl
theorem i64_of {v : Value} {x : Int} (h : i64Of v = some x) : v = .int .i64 x := by
  unfold i64Of at h
  split at h <;> simp at h
  subst h; rfl
theorem num_at {h : Heap} {s i j : Nat} {v : Value} {x : Int} (hx : numAt h s i j v = some x) : ∃ b o sp l c row, v = .slice (some ⟨b, o, sp⟩) l c ∧ i < l ∧ rowAt h b = some row ∧ row[o + i * s + j]? = some (.int .i64 x) := by
  obtain ⟨vx, hv1, hx1⟩ := obind_eq hx
  clear hx
  obtain rfl := i64_of hx1
  unfold cellAt at hv1
  split at hv1
  · rename_i a l c
    obtain ⟨b, o, sp⟩ := a
    obtain ⟨h1, hv2⟩ := guardB_eq hv1
    obtain ⟨row, hr, hv3⟩ := obind_eq hv2
    rw [lget_eq] at hv3
    exact ⟨b, o, sp, l, c, row, rfl, Nat.le_of_ble_eq_true h1, hr, hv3⟩
  · simp at hv1

end Go.Am.NB
