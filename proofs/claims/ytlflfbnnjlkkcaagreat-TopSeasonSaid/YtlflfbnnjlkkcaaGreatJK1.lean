/- Parts K1, TN, TNL of the abstract machine over this program, joined: what each part says stands at its head. -/
import Derived.Test.YtlflfbnnjlkkcaaGreatJK0
import Derived.Test.YtlflfbnnjlkkcaaGreatJAm35
import Derived.Test.YtlflfbnnjlkkcaaGreatJTN38
import Derived.Test.YtlflfbnnjlkkcaaGreatJT41
import Derived.Maps.RangeRun
set_option linter.unusedSimpArgs false
set_option linter.unusedVariables false
set_option linter.defProp false
namespace Go.Am
open Go
section
variable {C : Ctx} {μ : Mu} {s : FrS} {h : Heap} {fr : Frame} {t : Array Value} {cs : List Frame} {w wb : World}
theorem SelfOK.lim (hOk : C.Ok drawOK wb) : SelfOK C drawOK wb (Lim C) := by
  intro rd k s h r s' h' hl gk
  obtain ⟨n, hn⟩ := Lim_to hl
  exact run_ok hOk n rd k s h r s' h' hn gk
def Keeps (w w' : World) : Prop := w'.os = w.os ∧ w'.output = w.output ∧ w.heap.size ≤ w'.heap.size ∧ ∀ b, b < w.heap.size → w'.heap[b]? = w.heap[b]?
theorem Keeps.refl (w : World) : Keeps w w := ⟨rfl, rfl, Nat.le_refl _, fun _ _ => rfl⟩
theorem Keeps.trans {a b c : World} (h : Keeps a b) (h' : Keeps b c) : Keeps a c :=
  ⟨h'.1.trans h.1, h'.2.1.trans h.2.1, Nat.le_trans h.2.2.1 h'.2.2.1, fun i hi => (h'.2.2.2 i (Nat.lt_of_lt_of_le hi h.2.2.1)).trans (h.2.2.2 i hi)⟩
theorem HRel.keeps {good : Code → Prop} (H : HRel good wb μ h w) : Keeps wb w := ⟨H.os, H.output, H.size, H.old⟩
def WEnd (P : Program) (wb : World) (fr : Frame) (cs : List Frame) (M0 : Machine) (o : Option Value) : Prop :=
  ∃ t' w', Keeps wb w' ∧ match o with
    | none => Steps P M0 (lone (frm fr t' [] []) cs w')
    | some v => ∃ todo, Steps P M0 (lone { frm fr t' [] todo with mode := .panicking [{ v := v, recovered := false }] } cs w')
theorem WEnd.steps {P : Program} {M0 M1 : Machine} {o : Option Value} (hs : Steps P M0 M1) (q : WEnd P wb fr cs M1 o) : WEnd P wb fr cs M0 o := by
  obtain ⟨t', w', k, q⟩ := q
  refine ⟨t', w', k, ?_⟩
  cases o with
  | none => exact hs.trans q
  | some v => obtain ⟨todo, q⟩ := q; exact ⟨todo, hs.trans q⟩
theorem WEnd.base {P : Program} {M0 : Machine} {o : Option Value} {wb' : World} (hk : Keeps wb wb') (q : WEnd P wb' fr cs M0 o) : WEnd P wb fr cs M0 o := by
  obtain ⟨t', w', k, q⟩ := q
  exact ⟨t', w', hk.trans k, q⟩
theorem WEnd.region {wX : World} (hX : Keeps wX wb) (hOk : C.Ok drawOK wb) {n : Nat} {f : Nat → Value} (S : St C drawOK wb μ ⟨T n f, [], none⟩ h none fr t [] cs w) {id : Nat} {ops : Array Oper} {draw : Bool} {k : List Item} {o : Option Value} {Q1 : FEnd → FrS → Heap → Prop} (hg : goodRegion C drawOK ops.toList draw = true)
    (hw : W (Lim C none [.code (.region id ops draw)] ⟨T n f, [], none⟩ h) Q1)
    (hok : ∀ s1 h1, Q1 (.ended none) s1 h1 → s1.defers = [] ∧ ∀ μ1 w1 t1, μ.le μ1 → Fresh h.next μ μ1 → St C drawOK wb μ1 s1 h1 none fr t1 [] cs w1 → WEnd C.P wX fr cs (lone (frm fr t1 [] k) cs w1) o)
    (hp : ∀ v s1 h1, Q1 (.panic v) s1 h1 → s1.defers = [] ∧ o = some v ∧ ∀ ν V, VRel ν v V → V = v) : WEnd C.P wX fr cs (lone (frm fr t [] (.code (.region id ops draw) :: k)) cs w) o := by
  have hS := SelfOK.lim hOk
  have hD := draw_sound hOk hS
  obtain ⟨hg1, hg2⟩ := (Bool.and_eq_true _ _).mp hg
  have hgo : ∀ o ∈ ops.toList, goodOp C o = true := List.all_eq_true.1 hg1
  obtain ⟨r, s', h', hl, hq⟩ := hw
  rw [Lim_eq] at hl
  have hl : stRegion C (Lim C) none ops.toList [] ⟨T n f, [], none⟩ h draw = some (r, s', h') := hl
  have fin : ∀ {M1 : Machine} {ro : ORes}, afterOps (Lim C) none [] ro = some (r, s', h') → Steps C.P (lone (frm fr t [] (.code (.region id ops draw) :: k)) cs w) M1 → OAt C drawOK wb μ h.next ⟨T n f, [], none⟩ cs none fr M1 k ro →
      WEnd C.P wX fr cs (lone (frm fr t [] (.code (.region id ops draw) :: k)) cs w) o := by
    intro M1 ro ha hs hO
    cases ro with
    | ok s1 h1 =>
      obtain ⟨μ', w', t', d', cs', A, hs2⟩ := hO
      have ha : Lim C none [] s1 h1 = some (r, s', h') := ha
      rw [Lim_eq] at ha
      have ha : some (FEnd.ended none, s1, h1) = some (r, s', h') := ha
      simp at ha
      obtain ⟨rfl, rfl, rfl⟩ := ha
      obtain ⟨hd, hk⟩ := hok _ _ hq
      obtain rfl : cs' = cs := by
        rcases A.pan with ⟨_, p2⟩ | ⟨v, c, rest, V', p1, _⟩
        · exact p2
        · simp at p1
      have hD' := A.st.D
      rw [hd] at hD'
      obtain rfl := hD'.nil_inv
      exact (hk μ' w' t' A.le A.fresh A.st).steps (hs.trans hs2)
    | panic v s1 h1 =>
      have ha : some (FEnd.panic v, s1, h1) = some (r, s', h') := ha
      simp at ha
      obtain ⟨rfl, rfl, rfl⟩ := ha
      obtain ⟨s2, μ', w', t', d', cs', nr, A, todo, V, hV, E⟩ := hO
      obtain ⟨hd, rfl, hpl⟩ := hp _ _ _ hq
      obtain rfl : cs' = cs := by
        rcases A.pan with ⟨_, p2⟩ | ⟨v, c, rest, V', p1, _⟩
        · exact p2
        · simp at p1
      have hD' := A.st.D
      rw [nr.defers, hd] at hD'
      obtain rfl := hD'.nil_inv
      obtain rfl := hpl _ _ hV
      exact ⟨t', w', hX.trans A.st.H.keeps, todo, hs.trans E⟩
  cases draw with
  | false =>
    obtain ⟨ro, h1, h2⟩ := obind_eq hl
    have := ops_at (k := k) (rd := none) (b := fr) hOk hS hgo ops.toList [] rfl h1 S
    refine fin h2 (.one st_region) ?_
    have e : List.range ops.size = List.range' 0 ops.toList.length := by simp [List.range_eq_range']
    rw [e]
    exact this
  | true =>
    obtain ⟨ro, h1, h2⟩ := obind_eq hl
    have S1 : St C drawOK wb μ ⟨T n f, [], none⟩ h none fr t [] cs w.drew := ⟨S.H.quiet (Quiet.drew w), S.T, S.D, S.R, S.N, S.G⟩
    exact fin h2 (.one st_draw) (hD ops none _ h ro h1 hg2 hgo μ w.drew fr cs t [] k _ S1)
theorem WEnd.go {wX : World} (hX : Keeps wX wb) (hOk : C.Ok drawOK wb) {n : Nat} {f : Nat → Value} (S : St C drawOK wb μ ⟨T n f, [], none⟩ h none fr t [] cs w) {id : Nat} {ops : Array Oper} {draw : Bool} {k : List Item} {o : Option Value} {R : (Nat → Value) → Prop} (h' : Heap) (hg : goodRegion C drawOK ops.toList draw = true)
    (hw : W (Lim C none [.code (.region id ops draw)] ⟨T n f, [], none⟩ h) fun r s1 h1 => r = .ended none ∧ h1 = h' ∧ ∃ f1, s1 = ⟨T n f1, [], none⟩ ∧ R f1)
    (hok : ∀ f1, R f1 → ∀ μ1 w1 t1, μ.le μ1 → Fresh h.next μ μ1 → St C drawOK wb μ1 ⟨T n f1, [], none⟩ h' none fr t1 [] cs w1 → WEnd C.P wX fr cs (lone (frm fr t1 [] k) cs w1) o) : WEnd C.P wX fr cs (lone (frm fr t [] (.code (.region id ops draw) :: k)) cs w) o :=
  WEnd.region hX hOk S hg hw (fun s1 h1 ⟨_, e, f1, e1, q⟩ => by subst e; subst e1; exact ⟨rfl, hok f1 q⟩) (fun v s1 h1 ⟨e, _⟩ => by cases e)
theorem WEnd.die {wX : World} (hX : Keeps wX wb) (hOk : C.Ok drawOK wb) {n : Nat} {f : Nat → Value} (S : St C drawOK wb μ ⟨T n f, [], none⟩ h none fr t [] cs w) {id : Nat} {ops : Array Oper} {draw : Bool} {k : List Item} {v : Value} (hpl : ∀ ν V, VRel ν v V → V = v) (hg : goodRegion C drawOK ops.toList draw = true)
    (hw : W (Lim C none [.code (.region id ops draw)] ⟨T n f, [], none⟩ h) fun r s1 _ => s1.defers = [] ∧ r = .panic v) : WEnd C.P wX fr cs (lone (frm fr t [] (.code (.region id ops draw) :: k)) cs w) (some v) :=
  WEnd.region hX hOk S hg hw (fun s1 h1 ⟨_, e⟩ => by cases e) (fun v' s1 h1 ⟨e, e'⟩ => by cases e'; exact ⟨e, rfl, hpl⟩)
theorem WEnd.calls (hOk : C.Ok drawOK wb) {f : FuncId} {fn : Func} {c : Code} {args : List Value} {ARGS : Array Value} (hF : C.F.get f = some fn) (hc : fn.body = some c) (hres : fn.results = #[]) (hA : VRels μ args ARGS.toList)
    (H : HRel (goodP C drawOK) wb μ h w) (G : GRel C μ) (hn : args.length ≤ fn.ntmps) {o : Option Value}
    (hw : ∀ fr cs t, St C drawOK wb μ ⟨T fn.ntmps (argsFn args), [], none⟩ h none fr t [] cs w → WEnd C.P wb fr cs (lone (frm fr t [] [.code c]) cs w) o) :
    Calls C.P f ARGS w fun e w' => Keeps wb w' ∧ e = match o with | none => .returned (.tuple #[]) | some v => .panicked [{ v := v, recovered := false }] := by
  obtain ⟨hf, hname, hgood⟩ := hOk.F f fn hF
  intro cs
  rw [enter_eq hf hc]
  have N : PanRel μ .normal cs none := by
    intro fr hk
    unfold tryRecover
    rw [hk]
  have hsz : args.length = ARGS.size := by have := hA.1; simpa using this
  have TR : TRel μ (T fn.ntmps (argsFn args)) (ARGS ++ Array.replicate (fn.ntmps - ARGS.size) undef) := by
    rw [← mkTmps_T args fn.ntmps hn]
    refine TRel.mk' ?_
    have : (ARGS ++ Array.replicate (fn.ntmps - ARGS.size) undef).toList = ARGS.toList ++ List.replicate (fn.ntmps - args.length) undef := by simp [hsz]
    rw [this]
    refine hA.append ⟨rfl, fun i v V a b => ?_⟩
    rw [a] at b; simp at b; subst b
    have := List.mem_of_getElem? a
    have hu := List.eq_of_mem_replicate this
    rw [hu]
    exact .tup' .nil
  obtain ⟨t', w', hk, q⟩ := hw { (default : Frame) with fn := f, kind := .normal, roundOf := none } cs _ ⟨H, TR, trivial, trivial, N, G⟩
  cases o with
  | none =>
    have hV : (results fn t').run C.P w' = .ok (.tuple #[]) w' := by unfold results; rw [hres]; simp
    exact ⟨.returned (.tuple #[]), w', _, ⟨hk, rfl⟩, q.trans (.one (st_leave rfl (.inl rfl) rfl)), rfl, rfl, rfl, rfl, fn, hf, hV⟩
  | some v =>
    obtain ⟨todo, q⟩ := q
    exact ⟨.panicked [{ v := v, recovered := false }], w', _, ⟨hk, rfl⟩, q, rfl, rfl, rfl, fn, hf⟩
end
noncomputable def frozenO : AObj → AObj
  | .row c s _ => .row c s false
  | _ => .dead
theorem frozen_own (o : AObj) : (frozenO o).own = false := by cases o <;> rfl
noncomputable def NT.mapT {α β : Type} (f : α → β) (t : NT α) : NT β := NT.rec (motive := fun _ => NT β) .nil (fun _ o _ l r => .node l (o.map f) r) t
theorem NT.get_mapT {α β : Type} (f : α → β) (t : NT α) : ∀ n, (t.mapT f).get n = (t.get n).map f := by
  induction t with
  | nil => intro n; rfl
  | node l o r ihl ihr =>
    intro n
    show (NT.node (l.mapT f) (o.map f) (r.mapT f)).get n = _
    cases n with
    | zero => rfl
    | succ m =>
      rw [NT.get_succ, NT.get_succ]
      split
      · exact ihl _
      · exact ihr _
theorem NT.bound {α : Type} (t : NT α) : ∃ N, ∀ i, N ≤ i → t.get i = none := by
  induction t with
  | nil => exact ⟨0, fun i _ => rfl⟩
  | node l o r ihl ihr =>
    obtain ⟨N, hN⟩ := ihl
    obtain ⟨M, hM⟩ := ihr
    refine ⟨2 * N + 2 * M + 2, fun i hi => ?_⟩
    cases i with
    | zero => omega
    | succ m =>
      rw [NT.get_succ]
      split
      · exact hN _ (by omega)
      · exact hM _ (by omega)
theorem freeze {good good' : Code → Prop} {w0 : World} {μ : Mu} {h : Heap} {w : World} (H : HRel good w0 μ h w) : ∃ hf : Heap, HRel good' w μ hf w ∧ HOK hf ∧ (∀ i, hf.get i = (h.get i).map frozenO) := by
  obtain ⟨N, hN⟩ := NT.bound h.tree
  have hget : ∀ i, (Heap.mk (max N h.next) (h.tree.mapT frozenO)).get i = (h.get i).map frozenO := fun i => NT.get_mapT _ _ _
  refine ⟨⟨max N h.next, h.tree.mapT frozenO⟩, ⟨rfl, rfl, Nat.le_refl _, fun _ _ => rfl, ?_, ?_, ?_, ?_⟩, ?_, hget⟩
  · intro i e hi
    have := H.dom i e hi
    exact ⟨Nat.lt_of_lt_of_le this.1 (Nat.le_max_right _ _), this.2⟩
  · exact Nat.lt_of_lt_of_le H.pos (Nat.le_max_right _ _)
  · intro i e o hi ho
    rw [hget] at ho
    cases hg : h.get i with
    | none => rw [hg] at ho; simp at ho
    | some x =>
      rw [hg] at ho
      simp at ho; subst ho
      have := H.obj i e x hi hg
      cases x with
      | row cs z bw => obtain ⟨C, el, fz, q1, q2, q3, q4, q5, _⟩ := this; exact ⟨C, el, fz, q1, q2, q3, q4, q5, fun hx => by simp at hx⟩
      | _ => trivial
  · intro i j e f o p _ _ _ ho _ hown
    rw [hget] at ho
    cases hg : h.get i with
    | none => rw [hg] at ho; simp at ho
    | some x => rw [hg] at ho; simp at ho; subst ho; rw [frozen_own] at hown; simp at hown
  · intro i hi
    rw [hget]
    have : h.get i = none := hN i (Nat.le_trans (Nat.le_max_left _ _) hi)
    rw [this]; rfl
end Go.Am

namespace Go.Am.NB
open Go Go.Proofs
theorem in_day (x lo hi : Int) (h : Heap) : callF C0 (Lim C0) 153 [.int .i64 x, .int .i64 lo, .int .i64 hi] h = some (.ret (.bool (inP x lo hi)) h none) := by
  refine CW.eq (CW_in Tryz.f153 (by kernel_rfl) (by kernel_rfl) rfl rfl ?_)
  simp only [Tryz.f153]
  by_cases h1 : x ≥ lo
  · simp (maxDischargeDepth := 30) only [AA, ↓reduceIte, Nat.reduceLT, Nat.reduceEqDiff, Nat.reduceAdd, Nat.reduceMul, reduceCtorEq, Nat.reduceLeDiff, Int.reduceNe, Int.reduceEq, h1]
    simp [inP, show lo ≤ x from h1]
  · simp (maxDischargeDepth := 30) only [AA, ↓reduceIte, Nat.reduceLT, Nat.reduceEqDiff, Nat.reduceAdd, Nat.reduceMul, reduceCtorEq, Nat.reduceLeDiff, Int.reduceNe, Int.reduceEq, h1]
    simp [inP, show ¬ lo ≤ x from h1]
theorem must_ok (l : Value) (h : Heap) : callF C0 (Lim C0) 289 [.bool true, l] h = some (.ret (mkTup []) h none) := by
  refine CW.eq (CW_in Tryz.f289 (by kernel_rfl) (by kernel_rfl) rfl rfl ?_)
  simp only [Tryz.f289]
  simp (maxDischargeDepth := 30) only [AA, ↓reduceIte, Nat.reduceLT, Nat.reduceEqDiff, Nat.reduceAdd, Nat.reduceMul, reduceCtorEq, Nat.reduceLeDiff, Int.reduceNe, Int.reduceEq, bld_263, fld_263_0, mi_263, size_263, sp_263_0, zero_263, Post_end]
  exact ⟨rfl, trivial⟩
theorem must_no (l : List UInt8) (h : Heap) : CX C0 289 [.bool false, mkStr l] h (fun _ _ => False) fun v h' => v = refusal l ∧ h' = h := by
  refine CX_in Tryz.f289 (by kernel_rfl) (by kernel_rfl) rfl rfl ?_
  simp only [Tryz.f289]
  simp (maxDischargeDepth := 30) only [AA, ↓reduceIte, Nat.reduceLT, Nat.reduceEqDiff, Nat.reduceAdd, Nat.reduceMul, reduceCtorEq, Nat.reduceLeDiff, Int.reduceNe, Int.reduceEq, bld_263, fld_263_0, mi_263, size_263, sp_263_0, zero_263, O_panic, ROr_panic, mkStr, PostX_panic]
  exact ⟨rfl, trivial⟩
theorem must_w (l : Value) (h : Heap) : CW C0 289 [.bool true, l] h fun _ h' => h' = h := ⟨_, _, must_ok l h, rfl⟩
theorem in_w (x lo hi : Int) (h : Heap) : CW C0 153 [.int .i64 x, .int .i64 lo, .int .i64 hi] h fun r h' => r = .bool (inP x lo hi) ∧ h' = h := ⟨_, _, in_day x lo hi h, rfl, rfl⟩
def At (a : Addr) (N : Nat) (f : Nat → Value) : Prop := f 1 = .pointer (some a) ∧ f 2 = .pointer (some ⟨N, 0, none⟩)
theorem refusal_plain (l : List UInt8) (ν : Mu) (V : Value) (h : VRel ν (refusal l) V) : V = refusal l := by
  obtain ⟨U, rfl, h1⟩ := h.iface_inv
  obtain ⟨Xs, rfl, h2⟩ := h1.agg_inv
  obtain ⟨X, L, hL, h3, h4⟩ := VRels.cons_inv (v := mkStr l) (l := []) h2
  have := h4.nil_inv
  subst this
  have hX := h3.string_inv
  subst hX
  have : Xs = #[mkStr l] := Array.ext' (by rw [hL]; rfl)
  rw [this]; rfl
noncomputable def tlC : Code → Code
  | .seq _ b => b
  | c => c
theorem take_two {l : List Value} {o : Nat} {x y : Value} (h1 : l[o]? = some x) (h2 : l[o + 1]? = some y) : take? l o 2 = some [x, y] := by
  have a := (List.getElem?_eq_some_iff.1 h2)
  obtain ⟨b, c⟩ := (List.getElem?_eq_some_iff.1 h1)
  obtain ⟨a, d⟩ := a
  rw [take?_some (by omega)]
  rw [List.drop_eq_getElem_cons b, List.drop_eq_getElem_cons a, c, d]
  rfl
theorem i64_of {v : Value} {x : Int} (h : i64Of v = some x) : v = .int .i64 x := by
  unfold i64Of at h
  split at h <;> simp at h
  subst h; rfl
theorem num_at {h : Heap} {s i j : Nat} {v : Value} {x : Int} (hx : numAt h s i j v = some x) : ∃ b o sp l c row, v = .slice (some ⟨b, o, sp⟩) l c ∧ i < l ∧ rowAt h b = some row ∧ row[o + i * s + j]? = some (.int .i64 x) := by
  obtain ⟨vx, hv1, hx1⟩ := obind_eq hx
  clear hx
  obtain rfl := i64_of hx1
  unfold cellAt at hv1
  split at hv1
  · rename_i a l c
    obtain ⟨b, o, sp⟩ := a
    obtain ⟨h1, hv2⟩ := guardB_eq hv1
    obtain ⟨row, hr, hv3⟩ := obind_eq hv2
    rw [lget_eq] at hv3
    exact ⟨b, o, sp, l, c, row, rfl, Nat.le_of_ble_eq_true h1, hr, hv3⟩
  · simp at hv1
end Go.Am.NB

namespace Go.Am.NB
open Go Go.Proofs
def F352_TNL := A2 @fp_257_0 <| A2 @fp_257_4 <| A2 @fp_257_6 <| A2 @fp_25_0 <| A2 @fp_25_1 <| A2 @fp_278_0 <| A2 @fp_278_1 <| A2 @fp_38_2 <| A2 @fp_47_1 <| A2 @fp_49_3 <| A2 @fp_49_6 <| A2 @fp_89_2 <| A2 @fp_96_0 <| A2 @ix_22 <| A2 @ix_36 <| A2 @ix_44 <| A2 @ld_22 <| A2 @ld_25 <| A2 @ld_255 <| A2 @ld_3 <| A2 @ld_36 <| A2 @ld_44 <| A2 @len_22 <| A2 @part_3 <| A2 @part_89 <| A2 @part_96 <| A2 @size_22 <| A2 @size_25 <| A2 @size_3 <| A2 @size_36 <| A2 @size_44 <| A2 @size_89 <| A2 @size_96 <| A2 @und_22 <| A2 @und_36 <| A2 @und_44 <| A2 @zero_22 <| A2 @zero_25 <| A2 @zero_36 @zero_44
theorem wanted_free {μ : Mu} {τ : List (List Value)} {t : Array Value} (hT : TRel μ τ t) (ops : Array Oper) (o : Oper) (hg : o.guard = none) : Region.wanted o (yielded ops t) = true := by
  rw [← wanted_eq hT]; unfold wantedA; rw [hg]
theorem HRel.rebase {good good' : Code → Prop} {wb w w' : World} {μ : Mu} {h : Heap} (H : HRel good wb μ h w) (hno : ∀ i o, h.get i = some o → (∃ c s, o = .row c s false) ∨ o = .dead) (hk : Keeps w w') : HRel good' w' μ h w' := by
  refine ⟨rfl, rfl, Nat.le_refl _, fun _ _ => rfl, H.dom, H.pos, ?_, ?_⟩
  · intro i e o hi ho
    rcases hno i o ho with ⟨c, s, rfl⟩ | rfl
    · obtain ⟨C, el, fz, q1, q2⟩ := H.obj i e _ hi ho
      have hlt := (Array.getElem?_eq_some_iff.1 q1).1
      exact ⟨C, el, fz, (hk.2.2.2 _ hlt).trans q1, q2.1, q2.2.1, q2.2.2.1, q2.2.2.2.1, fun h => by simp at h⟩
    · trivial
  · intro i j e f o p _ _ _ ho _ hown
    rcases hno i o ho with ⟨c, s, rfl⟩ | rfl <;> simp [AObj.own] at hown
section
variable {μ : Mu} {h : Heap} {fr : Frame} {t : Array Value} {cs : List Frame} {w wb : World} {n : Nat} {f : Nat → Value}
theorem op_step (hOk : C0.Ok drawOK wb) (S : St C0 drawOK wb μ ⟨T n f, [], none⟩ h none fr t [] cs w) {ops : Array Oper} {i : Nat} {rest : List Nat} {k : List Item} {o : Oper} (ho : ops[i]? = some o) (hgd : o.guard = none) (hgo : goodOp C0 o = true) {v : Value} (he : earlyVal C0 (ev (T n f)) h o.op = some (.val v)) {d : Nat} (hd : o.dst = some d) :
    ∃ t1 w1, Quiet w w1 ∧ St C0 drawOK wb μ ⟨T n (upd f d v), [], none⟩ h none fr t1 [] cs w1 ∧ Steps Tryz.prog (lone (frm fr t [] (.inRegion ops (i :: rest) :: k)) cs w) (lone (frm fr t1 [] (.inRegion ops rest :: k)) cs w1) := by
  have hρ : ∀ x ∈ o.op.operands.toList, VRel μ (ev (T n f) x) ((frm fr t [] (.inRegion ops (i :: rest) :: k)).eval x) := fun x hx => ev_rel S.G S.T (List.all_eq_true.1 hgo x hx)
  have hde : ∀ c, o.op ≠ .defer c := by intro c e'; rw [e'] at he; simp [earlyVal] at he
  have hE := early_sim hOk.ok0 S.H hρ he
  obtain ⟨V, w', hrun, hq, hv⟩ := hE
  refine ⟨_, w', hq, ⟨S.H.quiet hq, ?_, S.D, S.R, S.N, S.G⟩, .one (st_value (P := C0.P) ho (wanted_free S.T ops o hgd) (.inr hde) hrun)⟩
  rw [hd, ← tset_T]
  exact S.T.set d hv
end
def ops5 : Array Oper := #[⟨some 50, .next (.tmp 49) false, 0, "daybook.go:373", #[], none⟩, ⟨some 51, .extract (.tmp 50) 0, 4, "daybook.go:373", #[⟨0, .data⟩], none⟩]
def ops6 : Array Oper := #[⟨some 52, .entry (.tmp 49), 0, "daybook.go:373", #[], none⟩, ⟨some 53, .extract (.tmp 52) 0, 3, "daybook.go:373", #[⟨0, .data⟩], none⟩, ⟨some 5, .assign (.tmp 53), 3, "daybook.go:373", #[⟨1, .data⟩, ⟨0, .phase⟩, ⟨1, .phase⟩], none⟩]
noncomputable def loopC : Code := match tlC (tlC (tlC (tlC (tlC Tryz.f352.body.get!)))) with
  | .block _ (.loop b) => b
  | c => c
section
variable {w3 : World} {μ : Mu} {hf : Heap} (H3 : HRel (goodP C0 drawOK) w3 μ hf w3) (hno : ∀ i o, hf.get i = some o → (∃ c s, o = .row c s false) ∨ o = .dead)
include H3 hno
theorem it_rel {w' : World} (hkp : Keeps w3 w') {rb : Nat} (hrb : w3.heap.size ≤ rb) : HRel (goodP C0 drawOK) w' (μ.upd hf.next ⟨rb, 0, 0, 0⟩) (hf.alloc .dead) w' := by
  have H := HRel.rebase (good' := goodP C0 drawOK) H3 hno hkp
  have hfn := H.fresh
  refine (H.allocA .dead).adopt ⟨rb, 0, 0, 0⟩ hfn (by have := H.pos; omega) (by simp) (Heap.get_alloc_self _ _) ?_ trivial
  intro j f p hj hp hl
  have hne : j ≠ hf.next := fun e => by rw [e, hfn] at hj; simp at hj
  rw [Heap.get_alloc_ne _ _ hne] at hp
  obtain ⟨X, hX⟩ := (H3.obj j f p hj hp).some hl
  have := (Array.getElem?_eq_some_iff.1 hX).1
  show f.blk ≠ rb
  omega
variable (hOkA : ∀ w, C0.Ok drawOK w) (hk : HOK hf) (G : GRel C0 μ) {fr : Frame} {cs : List Frame} (hR : RdRel μ none fr.roundOf) (hN : PanRel μ fr.kind cs none)
  {ab ao N i : Nat} {asp : Option Nat} {n : Int} {row : List Value} (q1 : rowAt hf ab = some row) (q2 : rowAt hf N = some [.int .i64 (i : Int), .int .i64 n]) {vs : Value} (hvs : row[ao + 17]? = some vs)
  {rb mb c : Nat} (hrb : w3.heap.size ≤ rb) (hmb : mb < w3.heap.size) {ES : Array MapEntry} (hES : w3.heap[mb]? = some (.map ES c)) (hst : ∀ x ∈ ES.toList, x.born < c) (hnd : (ES.toList.map (·.born)).Nodup) {zf : MapEntry → Int}
  (hkeys : ∀ x ∈ ES.toList, ∃ (k : Nat) (sb so : Nat) (ssp : Option Nat) (sl sc : Nat) (srow : List Value) (v : Value), x.key = .int .i64 (k : Int) ∧ vs = .slice (some ⟨sb, so, ssp⟩) sl sc ∧ k < sl ∧ rowAt hf sb = some srow ∧ srow[so + k * 5]? = some (.int .i64 (zf x)) ∧ VRel μ v x.val)
  {o' : Option Value} (ho1 : ∀ x ∈ ES.toList, zf x = (i : Int) → o' = some (refusal [115, 116, 114, 111, 107, 101, 115])) (ho0 : (∀ x ∈ ES.toList, zf x ≠ (i : Int)) → o' = none)
include hOkA hk G hR hN q1 q2 hvs hrb hmb hES hst hnd hkeys ho1 ho0
set_option maxRecDepth 10000 in
set_option maxHeartbeats 1000000 in
theorem note_rounds : ∀ (m : Nat) (seen : Array Nat) (c0 : Nat) (f : Nat → Value) (t : Array Value) (w' : World), (leftOf ES seen).size = m → Keeps w3 w' → TRel (μ.upd hf.next ⟨rb, 0, 0, 0⟩) (T 68 f) t →
    f 1 = .pointer (some ⟨ab, ao, asp⟩) → f 2 = .pointer (some ⟨N, 0, none⟩) → f 49 = .pointer (some ⟨hf.next, 0, none⟩) → w'.heap[rb]? = some (.mapIter (some mb) c seen c0) → c ≤ c0 → (∀ x ∈ ES.toList, seen.contains x.born = true → zf x ≠ (i : Int)) →
    WEnd Tryz.prog w3 fr cs (lone (frm fr t [] [.code loopC, .inLoop loopC, .inBlock 0]) cs w') o' := by
  have hle := Mu.le_upd (μ := μ) (i := hf.next) ⟨rb, 0, 0, 0⟩ H3.fresh
  have st : ∀ {f : Nat → Value} {t : Array Value} {w' : World}, Keeps w3 w' → TRel (μ.upd hf.next ⟨rb, 0, 0, 0⟩) (T 68 f) t → St C0 drawOK w' (μ.upd hf.next ⟨rb, 0, 0, 0⟩) ⟨T 68 f, [], none⟩ (hf.alloc .dead) none fr t [] cs w' :=
    fun hkp hT => ⟨it_rel H3 hno hkp hrb, hT, trivial, hR.mono hle, hN.mono hle, G.mono hle⟩
  intro m
  induction m using Nat.strongRecOn with
  | _ m ih =>
  intro seen c0 f t w' hm hkp hT g1 g2 g49 hit hc hseen
  have hmap : w'.heap[mb]? = some (.map ES c) := (hkp.2.2.2 mb hmb).trans hES
  have hrb' : rb < w'.heap.size := (Array.getElem?_eq_some_iff.1 hit).1
  simp only [loopC, Tryz.f352, Option.get!, tlC]
  refine WEnd.steps (.one st_seq) ?_
  refine WEnd.steps (.one st_region) ?_
  have hv49 : t.getD 49 undef = .pointer (some ⟨rb, 0, none⟩) := by
    have := (hT 49).1
    rw [tget_T, if_pos (by omega), g49] at this
    obtain ⟨A, hA, h1, e, h2, h3, h4⟩ := this.ptr_inv
    rw [hA]
    rw [Mu.upd_self] at h2
    cases h2
    obtain ⟨x, y, z⟩ := A
    simp at h1 h3 h4
    subst h1; subst h3; subst h4; rfl
  rcases run_next_at (P := Tryz.prog) w' 0 rb mb c c0 seen ES c hit hmap hst hc with ⟨h0, hrun⟩ | ⟨e, he, w1, hal, hrun⟩
  · -- nothing is left
    have hT1 : TRel (μ.upd hf.next ⟨rb, 0, 0, 0⟩) (T 68 (upd f 50 (mkTup [.bool false]))) (putT t (some 50) (.tuple #[.bool false])) := by
      rw [← tset_T]
      exact hT.set 50 (.tup' (VRels.plain rfl))
    refine WEnd.steps (.one (st_value (P := Tryz.prog) (v := .tuple #[.bool false]) (w' := w') rfl (wanted_free hT _ _ rfl) (.inr (by intro c h; cases h)) ?_)) ?_
    · simp only [execOp]
      show (Instr.next (t.getD 49 undef) false 0 >>= _ : Sem Next).run Tryz.prog w' = _
      rw [hv49]
      simp [hrun]
    obtain ⟨t2, w2, hq, S2, hs⟩ := op_step (hOkA w') (st hkp hT1) (ops := ops5) (i := 1) (rest := []) rfl rfl rfl (v := .bool false) (by simp only [earlyVal, ev, tget_T]; rfl) rfl
    refine WEnd.steps hs ?_
    refine WEnd.steps (.one st_regionEnd) ?_
    refine WEnd.steps (.one st_seq) ?_
    refine WEnd.steps (.one (st_cond (u := false) ?_)) ?_
    · have := (S2.T 51).1
      rw [tget_T] at this
      exact this.bool_inv
    refine WEnd.steps (.one (st_exit (l := 0) rfl)) ?_
    have ho := ho0 fun x hx => hseen x hx (all_seen ES seen h0 x hx)
    subst ho
    have hq' : Keeps w' w2 := ⟨hq.os, hq.output, by rw [hq.heap]; exact Nat.le_refl _, fun b _ => by rw [hq.heap]⟩
    exact ⟨t2, w2, hkp.trans hq', .refl _ _⟩
  · -- some entry comes
    have hmem := mem_left he
    have hkw1 : w1.heap = w'.heap ∧ w1.os = w'.os ∧ w1.output = w'.output := by rcases hal with rfl | rfl <;> exact ⟨rfl, rfl, rfl⟩
    have hgw : ∀ b, (ChangeMaps.setBlock w1 rb (Obj.mapIter (some mb) c (seen.push e.born) c)).heap[b]? = if b = rb then some (Obj.mapIter (some mb) c (seen.push e.born) c) else w'.heap[b]? := fun b => by
      show (w1.heap.setIfInBounds rb _)[b]? = _
      rw [hkw1.1, Array.getElem?_setIfInBounds]
      by_cases hb : rb = b
      · subst hb; simp [hrb']
      · rw [if_neg hb, if_neg (fun e => hb e.symm)]
    have hkN : Keeps w3 (ChangeMaps.setBlock w1 rb (Obj.mapIter (some mb) c (seen.push e.born) c)) := by
      refine ⟨hkw1.2.1.trans hkp.1, hkw1.2.2.trans hkp.2.1, ?_, fun b hb => ?_⟩
      · show w3.heap.size ≤ (w1.heap.setIfInBounds rb _).size
        rw [Array.size_setIfInBounds, hkw1.1]; exact hkp.2.2.1
      · rw [hgw, if_neg (by omega)]; exact hkp.2.2.2 b hb
    generalize hwN : ChangeMaps.setBlock w1 rb (Obj.mapIter (some mb) c (seen.push e.born) c) = wN at hrun hgw hkN
    have hitN : wN.heap[rb]? = some (.mapIter (some mb) c (seen.push e.born) c) := by rw [hgw, if_pos rfl]
    obtain ⟨k, sb, so, ssp, sl, sc, srow, v, hkey, hvsl, hksl, hsr, hz, hval⟩ := hkeys e hmem.1
    subst hvsl
    have hpair : VRels (μ.upd hf.next ⟨rb, 0, 0, 0⟩) [e.key, v] [e.key, e.val] := .cons (by rw [hkey]; exact .plain _ rfl) (.cons (hval.mono hle) .nil)
    have hT1 : TRel (μ.upd hf.next ⟨rb, 0, 0, 0⟩) (T 68 (upd f 50 (mkTup [.bool true, e.key, v]))) (putT t (some 50) (.tuple #[.bool true, e.key, e.val])) := by
      rw [← tset_T]
      exact hT.set 50 (.tup' (.cons (.plain _ rfl) hpair))
    refine WEnd.steps (.one (st_value (P := Tryz.prog) (v := .tuple #[.bool true, e.key, e.val]) (w' := wN) rfl (wanted_free hT _ _ rfl) (.inr (by intro c h; cases h)) ?_)) ?_
    · simp only [execOp]
      show (Instr.next (t.getD 49 undef) false 0 >>= _ : Sem Next).run Tryz.prog w' = _
      rw [hv49]
      simp [hrun]
    obtain ⟨t2, w2, hq, S2, hs⟩ := op_step (hOkA wN) (st hkN hT1) (ops := ops5) (i := 1) (rest := []) rfl rfl rfl (v := .bool true) (by simp only [ops5, earlyVal, ev, tget_T]; rfl) rfl
    refine WEnd.steps hs ?_
    refine WEnd.steps (.one st_regionEnd) ?_
    refine WEnd.steps (.one st_seq) ?_
    refine WEnd.steps (.one (st_cond (u := true) ?_)) ?_
    · have := (S2.T 51).1
      rw [tget_T] at this
      exact this.bool_inv
    refine WEnd.steps (.one st_skip) ?_
    refine WEnd.steps (.one st_block) ?_
    refine WEnd.steps (.one st_seq) ?_
    refine WEnd.steps (.one st_region) ?_
    have hit2 : w2.heap[rb]? = some (.mapIter (some mb) c (seen.push e.born) c) := by rw [hq.heap]; exact hitN
    have hmap2 : w2.heap[mb]? = some (.map ES c) := by
      rw [hq.heap, hgw, if_neg (by omega)]; exact hmap
    have hent := run_entry_at (P := Tryz.prog) w2 rb mb c seen ES c e hit2 hmap2 hmem.1 hnd
    have hv2 : t2.getD 49 undef = .pointer (some ⟨rb, 0, none⟩) := by
      have := (S2.T 49).1
      rw [tget_T, if_pos (by omega), upd_at, if_neg (by omega), upd_at, if_neg (by omega), g49] at this
      obtain ⟨A, hA, h1, e, h2, h3, h4⟩ := this.ptr_inv
      rw [hA]
      rw [Mu.upd_self] at h2
      cases h2
      obtain ⟨x, y, z⟩ := A
      simp at h1 h3 h4
      subst h1; subst h3; subst h4; rfl
    have hk2 : Keeps w3 w2 := hkN.trans ⟨hq.os, hq.output, by rw [hq.heap]; exact Nat.le_refl _, fun b _ => by rw [hq.heap]⟩
    have hT2 : TRel (μ.upd hf.next ⟨rb, 0, 0, 0⟩) (T 68 (upd (upd (upd f 50 (mkTup [.bool true, e.key, v])) 51 (.bool true)) 52 (mkTup [e.key, v]))) (putT t2 (some 52) (.tuple #[e.key, e.val])) := by
      rw [← tset_T]
      exact S2.T.set 52 (.tup' hpair)
    refine WEnd.steps (.one (st_value (P := Tryz.prog) (v := .tuple #[e.key, e.val]) (w' := w2) rfl (wanted_free S2.T _ _ rfl) (.inr (by intro c h; cases h)) ?_)) ?_
    · simp only [execOp]
      show (Instr.entry (t2.getD 49 undef) >>= _ : Sem Next).run Tryz.prog w2 = _
      rw [hv2]
      simp [hent]
    obtain ⟨t3, w4, hq3, S3, hs3⟩ := op_step (hOkA w2) (st hk2 hT2) (ops := ops6) (i := 1) (rest := [2]) rfl rfl rfl (v := .int .i64 (k : Int)) (by simp only [ops6, earlyVal, ev, tget_T]; rw [hkey]; rfl) rfl
    refine WEnd.steps hs3 ?_
    obtain ⟨t4, w5, hq4, S4, hs4⟩ := op_step (hOkA w2) S3 (ops := ops6) (i := 2) (rest := []) rfl rfl rfl (v := .int .i64 (k : Int)) (by simp only [ops6, earlyVal, ev, tget_T]; rfl) rfl
    refine WEnd.steps hs4 ?_
    refine WEnd.steps (.one st_regionEnd) ?_
    have hk5 : Keeps w2 w5 := S4.H.keeps
    have hit5 : w5.heap[rb]? = some (.mapIter (some mb) c (seen.push e.born) c) := by rw [hq4.heap, hq3.heap]; exact hit2
    have hrb5 := (Array.getElem?_eq_some_iff.1 hit5).1
    have S5 := st (hk2.trans hk5) S4.T
    have hk0 : HOK (hf.alloc .dead) := hk.alloc _
    have q1' : rowAt (hf.alloc .dead) ab = some row := ((Fr.refl hk).alloc _).row' hk q1
    have q2' : rowAt (hf.alloc .dead) N = some [.int .i64 (i : Int), .int .i64 n] := ((Fr.refl hk).alloc _).row' hk q2
    have hsr' : rowAt (hf.alloc .dead) sb = some srow := ((Fr.refl hk).alloc _).row' hk hsr
    by_cases hbad : zf e = (i : Int)
    · obtain rfl := ho1 e hmem.1 hbad
      have dn : ((zf e) != (i : Int)) = false := by simp [hbad]
      refine WEnd.die (hk2.trans hk5) (hOkA w5) S5 (refusal_plain _) (by kernel_rfl) ?_
      refine W_draw [(true, 0), (true, 1), (true, 2), (true, 3), (true, 4), (true, 5), (true, 6), (true, 7), (true, 8), (true, 9), (true, 10), (true, 11), (true, 12), (true, 13)] (by kernel_rfl) ?_
      simp (maxDischargeDepth := 30) only [AA, ↓reduceIte, Nat.reduceLT, Nat.reduceEqDiff, Nat.reduceAdd, Nat.reduceMul, reduceCtorEq, Nat.reduceLeDiff, Int.reduceNe, Int.reduceEq, AMR, F352_TNL, hk0, g1, g2, upd_at, q1', q2', hvs, hksl, hsr', hz, dn, Nat.add_zero]
      refine W_callPX (must_no _ _) (fun v h' q => q.elim) ?_
      rintro v h' ⟨rfl, rfl⟩
      exact ⟨rfl, rfl⟩
    · have dn : ((zf e) != (i : Int)) = true := by simp [hbad]
      refine WEnd.go (hk2.trans hk5) (hOkA w5) S5 (R := fun f' => f' 1 = .pointer (some ⟨ab, ao, asp⟩) ∧ f' 2 = .pointer (some ⟨N, 0, none⟩) ∧ f' 49 = .pointer (some ⟨hf.next, 0, none⟩)) (hf.alloc .dead) (by kernel_rfl) ?_ ?_
      · refine W_draw [(true, 0), (true, 1), (true, 2), (true, 3), (true, 4), (true, 5), (true, 6), (true, 7), (true, 8), (true, 9), (true, 10), (true, 11), (true, 12), (true, 13)] (by kernel_rfl) ?_
        simp (maxDischargeDepth := 30) only [AA, ↓reduceIte, Nat.reduceLT, Nat.reduceEqDiff, Nat.reduceAdd, Nat.reduceMul, reduceCtorEq, Nat.reduceLeDiff, Int.reduceNe, Int.reduceEq, AMR, F352_TNL, hk0, g1, g2, upd_at, q1', q2', hvs, hksl, hsr', hz, dn, Nat.add_zero]
        refine W_callP (must_w _ _) ?_
        rintro v h' rfl
        simp (maxDischargeDepth := 30) only [AA, ↓reduceIte, Nat.reduceLT, Nat.reduceEqDiff, Nat.reduceAdd, Nat.reduceMul, reduceCtorEq, Nat.reduceLeDiff, Int.reduceNe, Int.reduceEq, AMR, F352_TNL, hk0]
        refine ⟨trivial, trivial, _, rfl, by simp [upd_at, g1], by simp [upd_at, g2], by simp [upd_at, g49]⟩
      rintro f7 ⟨g1', g2', g49'⟩ μ7 w7 t7 le7 fr7 S7
      have hμ7 : μ7 = μ.upd hf.next ⟨rb, 0, 0, 0⟩ := by
        funext j
        cases h4 : (μ.upd hf.next ⟨rb, 0, 0, 0⟩) j with
        | some x => exact le7 j x h4
        | none =>
          cases h7 : μ7 j with
          | none => rfl
          | some x =>
            rcases fr7 j x h7 with q | q
            · rw [h4] at q; simp at q
            · have := (S7.H.dom j x h7).1; omega
      have hT7 := S7.T
      rw [hμ7] at hT7
      have hk7 : Keeps w5 w7 := S7.H.keeps
      refine WEnd.steps (.one st_inBlock) ?_
      refine WEnd.steps (.one st_inLoop) ?_
      refine ih (leftOf ES (seen.push e.born)).size (by rw [← hm]; exact left_shrinks ES seen e he) (seen.push e.born) c f7 t7 w7 rfl ((hk2.trans hk5).trans hk7) hT7 g1' g2' g49' ((hk7.2.2.2 rb hrb5).trans hit5) (Nat.le_refl _) ?_
      intro x hx hcx
      rw [contains_push] at hcx
      rcases (Bool.or_eq_true _ _).mp hcx with q | q
      · exact hseen x hx q
      · have hb : x.born = e.born := by simpa using q
        obtain rfl := born_inj hnd hx hmem.1 hb
        exact hbad
end
def ops4 : Array Oper := #[⟨some 45, .move (.tmp 1), 154, "daybook.go:373", #[], none⟩, ⟨some 46, .nilCheck (.tmp 45), 0, "daybook.go:373", #[⟨0, .data⟩], none⟩, ⟨some 47, .fieldAddr 257 (.tmp 46) 4, 0, "daybook.go:373", #[⟨1, .data⟩], none⟩, ⟨some 48, .load 255 (.tmp 47), 255, "daybook.go:373", #[⟨2, .data⟩], none⟩, ⟨some 49, .range 255 (.tmp 48), 0, "daybook.go:373", #[⟨3, .data⟩], none⟩]
set_option maxRecDepth 10000 in
set_option maxHeartbeats 1000000 in
theorem note_start {w w4 : World} {μ : Mu} {h3 : Heap} (hOkA : ∀ w, C0.Ok drawOK w) {f : Nat → Value} {fr : Frame} {t4 : Array Value} {cs : List Frame} (S4 : St C0 drawOK w μ ⟨T 68 f, [], none⟩ h3 none fr t4 [] cs w4)
    {ab ao N i : Nat} {asp : Option Nat} {n : Int} {row : List Value} (g1 : f 1 = .pointer (some ⟨ab, ao, asp⟩)) (g2 : f 2 = .pointer (some ⟨N, 0, none⟩)) (q1 : rowAt h3 ab = some row) (q2 : rowAt h3 N = some [.int .i64 (i : Int), .int .i64 n]) {vs : Value} (hvs : row[ao + 17]? = some vs)
    {mr : Nat} (hvm : row[ao + 38]? = some (.map (some mr))) {em : Spot} (hem : μ mr = some em) {c : Nat} {ES : Array MapEntry} (hES : w.heap[em.blk]? = some (.map ES c)) (hst : ∀ x ∈ ES.toList, x.born < c) (hnd : (ES.toList.map (·.born)).Nodup) {zf : MapEntry → Int}
    (hkeys : ∀ x ∈ ES.toList, ∃ (k : Nat) (sb so : Nat) (ssp : Option Nat) (sl sc : Nat) (srow : List Value) (v : Value), x.key = .int .i64 (k : Int) ∧ vs = .slice (some ⟨sb, so, ssp⟩) sl sc ∧ k < sl ∧ rowAt h3 sb = some srow ∧ srow[so + k * 5]? = some (.int .i64 (zf x)) ∧ VRel μ v x.val)
    {o' : Option Value} (ho1 : ∀ x ∈ ES.toList, zf x = (i : Int) → o' = some (refusal [115, 116, 114, 111, 107, 101, 115])) (ho0 : (∀ x ∈ ES.toList, zf x ≠ (i : Int)) → o' = none) :
    WEnd Tryz.prog w fr cs (lone (frm fr t4 [] [.code (tlC (tlC (tlC (tlC Tryz.f352.body.get!))))]) cs w4) o' := by
  obtain ⟨hf, Hf, hkf, hgf⟩ := freeze (good' := goodP C0 drawOK) S4.H
  have hno : ∀ i o, hf.get i = some o → (∃ c s, o = .row c s false) ∨ o = .dead := fun i o ho => by
    rw [hgf] at ho
    cases hg : h3.get i with
    | none => rw [hg] at ho; simp at ho
    | some x =>
      rw [hg] at ho; simp at ho; subst ho
      cases x <;> first | exact .inl ⟨_, _, rfl⟩ | exact .inr rfl
  have rF : ∀ i l, rowAt h3 i = some l → rowAt hf i = some l := fun i l hi => by
    unfold rowAt at hi ⊢
    rw [hgf]
    cases hg : h3.get i with
    | none => rw [hg] at hi; simp at hi
    | some x => rw [hg] at hi; cases x <;> first | exact hi | (simp [rowOf] at hi)
  have hk4 : Keeps w w4 := S4.H.keeps
  refine WEnd.base hk4 ?_
  simp only [Tryz.f352, Option.get!, tlC]
  refine WEnd.steps (.one st_seq) ?_
  refine WEnd.steps (.one st_region) ?_
  obtain ⟨t5, w5, hq5, S5, hs5⟩ := op_step (hOkA w4) ⟨Hf, S4.T, S4.D, S4.R, S4.N, S4.G⟩ (ops := ops4) (i := 0) (rest := [1, 2, 3, 4]) rfl rfl rfl (v := .pointer (some ⟨ab, ao, asp⟩)) (by show asVal (tget (T 68 f) 1) = _; rw [tget_T, if_pos (by omega), g1]; rfl) rfl
  refine WEnd.steps hs5 ?_
  obtain ⟨t6, w6, hq6, S6, hs6⟩ := op_step (hOkA w4) S5 (ops := ops4) (i := 1) (rest := [2, 3, 4]) rfl rfl rfl (v := .pointer (some ⟨ab, ao, asp⟩)) (by simp only [ops4, earlyVal, ev, tget_T]; rfl) rfl
  refine WEnd.steps hs6 ?_
  obtain ⟨t7, w7, hq7, S7, hs7⟩ := op_step (hOkA w4) S6 (ops := ops4) (i := 2) (rest := [3, 4]) rfl rfl rfl (v := .pointer (some ⟨ab, ao + 38, none⟩)) (by show aFieldAddr C0 257 (tget (T 68 _) 46) 4 = _; rw [tget_T, if_pos (by omega), upd_at, if_pos rfl, fp_257_4]) rfl
  refine WEnd.steps hs7 ?_
  obtain ⟨t8, w8, hq8, S8, hs8⟩ := op_step (hOkA w4) S7 (ops := ops4) (i := 3) (rest := [4]) rfl rfl rfl (v := .map (some mr)) (by show obind (aLoad C0 255 (tget (T 68 _) 47) hf) asVal = _; rw [tget_T, if_pos (by omega), upd_at, if_pos rfl, ld_255, rF _ _ q1, obind_some, hvm]; rfl) rfl
  refine WEnd.steps hs8 ?_
  have hk8 : Keeps w4 w8 := S8.H.keeps
  have hlt : em.blk < w.heap.size := (Array.getElem?_eq_some_iff.1 hES).1
  have hES8 : w8.heap[em.blk]? = some (.map ES c) := ((hk4.trans hk8).2.2.2 _ hlt).trans hES
  have hv8 : t8.getD 48 undef = .map (some em.blk) := by
    have := (S8.T 48).1
    rw [tget_T, if_pos (by omega), upd_at, if_pos rfl] at this
    obtain ⟨e, hA, h2⟩ := this.map_inv
    rw [hem] at h2; cases h2
    exact hA
  have hrun := run_range_map (P := Tryz.prog) w8 255 3 4 em.blk ES c Tryz.underlying255 hES8
  refine WEnd.steps (.one (st_value (P := Tryz.prog) (v := .pointer (some ⟨w8.heap.size, 0, none⟩)) (w' := w8.alloc (.mapIter (some em.blk) c #[] c)) rfl (wanted_free S8.T _ _ rfl) (.inr (by intro c h; cases h)) ?_)) ?_
  · simp only [execOp]
    show (Instr.range 255 (t8.getD 48 undef) >>= _ : Sem Next).run Tryz.prog w8 = _
    rw [hv8]
    simp [hrun]
  refine WEnd.steps (.one st_regionEnd) ?_
  refine WEnd.steps (.one st_block) ?_
  refine WEnd.steps (.one st_loop) ?_
  have H8 : HRel (goodP C0 drawOK) w8 μ hf w8 := HRel.rebase Hf hno hk8
  have hT : TRel (μ.upd hf.next ⟨w8.heap.size, 0, 0, 0⟩) (T 68 (upd (upd (upd (upd (upd f 45 (.pointer (some ⟨ab, ao, asp⟩))) 46 (.pointer (some ⟨ab, ao, asp⟩))) 47 (.pointer (some ⟨ab, ao + 38, none⟩))) 48 (.map (some mr))) 49 (.pointer (some ⟨hf.next, 0, none⟩)))) (putT t8 (some 49) (.pointer (some ⟨w8.heap.size, 0, none⟩))) := by
    rw [← tset_T]
    exact (S8.T.mono (Mu.le_upd _ H8.fresh)).set 49 (.ptr _ _ ⟨rfl, _, Mu.upd_self _ _ _, rfl, rfl⟩)
  have hka : Keeps w8 (w8.alloc (.mapIter (some em.blk) c #[] c)) := ⟨rfl, rfl, by show w8.heap.size ≤ (w8.heap.push _).size; simp, fun b hb => heap_alloc_old w8 _ hb⟩
  refine WEnd.base hk8 ?_
  exact note_rounds (asp := asp) H8 hno hOkA hkf S8.G S8.R S8.N (rF _ _ q1) (rF _ _ q2) hvs (Nat.le_refl _) (Nat.lt_of_lt_of_le hlt (hk4.trans hk8).2.2.1) hES8 hst hnd
    (fun x hx => by obtain ⟨k, sb, so, ssp, sl, sc, srow, v, a1, a2, a3, a4, a5, a6⟩ := hkeys x hx; exact ⟨k, sb, so, ssp, sl, sc, srow, v, a1, a2, a3, rF _ _ a4, a5, a6⟩) ho1 ho0
    _ #[] c _ _ _ rfl hka hT (by simp [upd_at, g1]) (by simp [upd_at, g2]) (by simp [upd_at]) (heap_alloc_new w8 _) (Nat.le_refl _) (fun x _ h => by simp at h)
end Go.Am.NB
