/- Parts D66, D80 of the abstract machine over this program, joined: what each part says stands at its head. -/
import Derived.Test.YtfnllpibhjikgaaGreatDoorJD65
set_option linter.unusedSimpArgs false
set_option linter.unusedVariables false
/- The abstract machine, part 66: lists that come in; entries and questions. -/
namespace Go.Am
open Go Go.Proofs Go.ChangeShapes Go.WideShapes Go.RowKit Go.Proofs.YtfnllpibhjikgaaGreatDoor

section
variable {H : Type} {enc : TypeId × Value → H}

set_option maxRecDepth 100000 in
theorem ints_in {w : World} {V : Value} {d : DataW H} {ps : List MemPlace} {base : Nat} (hok : Value.okWide Tryz.prog w .any base 23 V) (h : DataW.Trod enc Tryz.prog w 0 (fun _ => true) true 23 V d ps) :
    ∃ xs : List Int, SliceIn w V xs ints 1 := by
  obtain ⟨a, l, c, rfl⟩ := okWide_slice Tryz.underlying23 hok
  obtain ⟨n, h⟩ := h
  exact slice_in Tryz.underlying23 c3 (by decide) ints_len (fun n cs x h => int_cells Tryz.underlying3 h) h

set_option maxRecDepth 100000 in
/-- an entry comes in -/
theorem entry_in {w : World} {V : Value} {d : DataW H} {ps : List MemPlace} {base : Nat} (hok : Value.okWide Tryz.prog w .any base 25 V) (h : DataW.Trod enc Tryz.prog w 0 (fun _ => true) true 25 V d ps) :
    ∃ (k : Int) (A : Value) (l : List Int), V = .agg ⟨[.int .i64 k, A]⟩ ∧ SliceIn w A l ints 1 := by
  obtain ⟨cs, rfl, hsz⟩ := okWide_struct Tryz.underlying25 hok
  rw [c25] at hsz
  obtain ⟨L⟩ := cs
  obtain ⟨A, B, rfl⟩ := len2 (show L.length = 2 from hsz)
  obtain ⟨n, h⟩ := h
  have h' : DataW.trod enc Tryz.prog w 0 (fun _ => true) true n 25 [A, B] = some (d, ps) := h
  clear h
  obtain ⟨xs, m, rfl, _, hl, hx, hf⟩ := DataW.trod_struct Tryz.underlying25 h'
  clear h'
  have hx2 : xs.length = 2 := hx
  match xs, hx2 with
  | [x0, x1], _ =>
    have h0 := fieldAt hf 0 22 0 1 x0 rfl c22 rfl
    have h1 := fieldAt hf 1 23 1 1 x1 rfl c23 rfl
    clear hf
    obtain ⟨k, hk⟩ := int_cells Tryz.underlying22 h0
    obtain ⟨o, ho⟩ := slice_in (V := B) (f := ints) Tryz.underlying23 c3 (by decide) ints_len (fun n cs x h => int_cells Tryz.underlying3 h) h1
    simp at hk
    exact ⟨k, B, o, by rw [hk], ho⟩
set_option maxRecDepth 100000 in
/-- a question comes in -/
theorem question_in {w : World} {V : Value} {d : DataW H} {ps : List MemPlace} {base : Nat} (hok : Value.okWide Tryz.prog w .any base 40 V) (h : DataW.Trod enc Tryz.prog w 0 (fun _ => true) true 40 V d ps) :
    ∃ (k : Int) (A : Value) (l : List Int), V = .agg ⟨[.int .i64 k, A]⟩ ∧ SliceIn w A l ints 1 := by
  obtain ⟨cs, rfl, hsz⟩ := okWide_struct Tryz.underlying40 hok
  rw [c40] at hsz
  obtain ⟨L⟩ := cs
  obtain ⟨A, B, rfl⟩ := len2 (show L.length = 2 from hsz)
  obtain ⟨n, h⟩ := h
  have h' : DataW.trod enc Tryz.prog w 0 (fun _ => true) true n 40 [A, B] = some (d, ps) := h
  clear h
  obtain ⟨xs, m, rfl, _, hl, hx, hf⟩ := DataW.trod_struct Tryz.underlying40 h'
  clear h'
  have hx2 : xs.length = 2 := hx
  match xs, hx2 with
  | [x0, x1], _ =>
    have h0 := fieldAt hf 0 38 0 1 x0 rfl c38 rfl
    have h1 := fieldAt hf 1 23 1 1 x1 rfl c23 rfl
    clear hf
    obtain ⟨k, hk⟩ := int_cells Tryz.underlying38 h0
    obtain ⟨o, ho⟩ := slice_in (V := B) (f := ints) Tryz.underlying23 c3 (by decide) ints_len (fun n cs x h => int_cells Tryz.underlying3 h) h1
    simp at hk
    exact ⟨k, B, o, by rw [hk], ho⟩
end

theorem VRel.agg2 {μ : Mu} {a b A B : Value} (h1 : VRel μ a A) (h2 : VRel μ b B) : VRel μ (.agg ⟨[a, b]⟩) (.agg ⟨[A, B]⟩) :=
  have q : VRels μ [a, b] [A, B] := .cons h1 (.cons h2 .nil)
  .agg _ _ q.1 q.2

end Go.Am

/- The abstract machine, part 80: arguments of any of the laws: entries, questions, texts. -/
namespace Go.Am
open Go Go.Proofs Go.ChangeShapes Go.WideShapes Go.RowKit Go.Proofs.YtfnllpibhjikgaaGreatDoor

/-- what an argument is -/
inductive Sh where
  | entry | question | str
def Sh.ty : Sh → TypeId
  | .entry => 25
  | .question => 40
  | .str => 9
/-- an argument on the machine -/
def Sh.In (h : Heap) : Sh → Value → Prop
  | .entry, v => ∃ (k : Int) (a : Value) (l : List Int), v = .agg ⟨[.int .i64 k, a]⟩ ∧ LS h a l ints 1
  | .question, v => ∃ (k : Int) (a : Value) (l : List Int), v = .agg ⟨[.int .i64 k, a]⟩ ∧ LS h a l ints 1
  | .str, v => ∃ s : ByteArray, v = .string s
def AllIn (h : Heap) : List Sh → List Value → Prop
  | [], [] => True
  | s :: ss, v :: vs => s.In h v ∧ AllIn h ss vs
  | _, _ => False

theorem AllIn.cons {h : Heap} {s : Sh} {ss : List Sh} {vs : List Value} (q : AllIn h (s :: ss) vs) : ∃ v vs', vs = v :: vs' ∧ s.In h v ∧ AllIn h ss vs' := by
  cases vs with
  | nil => exact q.elim
  | cons v vs => exact ⟨v, vs, rfl, q.1, q.2⟩
theorem AllIn.nil {h : Heap} {vs : List Value} (q : AllIn h [] vs) : vs = [] := by
  cases vs with
  | nil => rfl
  | cons v vs => exact q.elim

theorem Sh.In.fr {h h' : Heap} (hk : HOK h) (f : Fr h h') {s : Sh} {v : Value} (q : s.In h v) : s.In h' v := by
  cases s with
  | entry => obtain ⟨k, a, l, rfl, q⟩ := q; exact ⟨k, a, l, rfl, q.fr hk f⟩
  | question => obtain ⟨k, a, l, rfl, q⟩ := q; exact ⟨k, a, l, rfl, q.fr hk f⟩
  | str => exact q

section
variable {H : Type} {enc : TypeId × Value → H}

set_option maxRecDepth 100000 in
theorem start_all {w : World} {base : Nat} : ∀ (shs : List Sh) {args : List Value} {ds : List (DataW H)} {ps : List MemPlace} {μ0 : Mu} {h0 : Heap},
    Start CC (goodP CC drawOK) w μ0 h0 → (∀ (j : Nat) t v, (shs.map Sh.ty)[j]? = some t → args[j]? = some v → Value.okWide Tryz.prog w .any base t v) →
    DataW.TrodAll enc Tryz.prog w 0 (fun _ => true) true (shs.map Sh.ty) args ds ps →
    ds.length = (shs.map Sh.ty).length ∧ ∃ μ h vs, μ0.le μ ∧ Start CC (goodP CC drawOK) w μ h ∧ Fr h0 h ∧ AllIn h shs vs ∧ VRels μ vs args := by
  intro shs
  induction shs with
  | nil =>
    intro args ds ps μ0 h0 S _ ht
    obtain ⟨rfl, rfl, rfl⟩ := trodAll_nil ht
    exact ⟨rfl, μ0, h0, [], fun _ _ a => a, S, Fr.refl S.ok, trivial, .nil⟩
  | cons sh shs ih =>
    intro args ds ps μ0 h0 S hval ht
    obtain ⟨v, vs1, d, ds1, a, b, rfl, rfl, rfl, h1, h2⟩ := trodAll_cons ht
    have hv0 : Value.okWide Tryz.prog w .any base sh.ty v := hval 0 sh.ty v rfl rfl
    have hvs : ∀ (j : Nat) t x, (shs.map Sh.ty)[j]? = some t → vs1[j]? = some x → Value.okWide Tryz.prog w .any base t x := fun j t x q r => hval (j + 1) t x q r
    have one : ∃ μ1 h1 x, μ0.le μ1 ∧ Start CC (goodP CC drawOK) w μ1 h1 ∧ Fr h0 h1 ∧ sh.In h1 x ∧ VRel μ1 x v := by
      cases sh with
      | entry =>
        obtain ⟨k, A, l, rfl, hl⟩ := entry_in hv0 h1
        obtain ⟨μ1, h1, x, l1, S1, f1, v1, q1⟩ := start_slice S ints_len ints_plain hl
        exact ⟨μ1, h1, .agg ⟨[.int .i64 k, x]⟩, l1, S1, f1, ⟨k, x, l, rfl, q1⟩, VRel.agg2 (.plain _ rfl) v1⟩
      | question =>
        obtain ⟨k, A, l, rfl, hl⟩ := question_in hv0 h1
        obtain ⟨μ1, h1, x, l1, S1, f1, v1, q1⟩ := start_slice S ints_len ints_plain hl
        exact ⟨μ1, h1, .agg ⟨[.int .i64 k, x]⟩, l1, S1, f1, ⟨k, x, l, rfl, q1⟩, VRel.agg2 (.plain _ rfl) v1⟩
      | str =>
        obtain ⟨s, rfl⟩ := okWide_string Tryz.underlying9 hv0
        exact ⟨μ0, h0, _, fun _ _ a => a, S, Fr.refl S.ok, ⟨s, rfl⟩, .plain _ rfl⟩
    obtain ⟨μ1, h1, x, le1, S1, f1, i1, v1⟩ := one
    obtain ⟨e, μ2, h2', xs, le2, S2, f2, i2, v2⟩ := ih S1 hvs h2
    exact ⟨by simp at e ⊢; exact e, μ2, h2', x :: xs, fun p q r => le2 p q (le1 p q r), S2, f1.trans f2, ⟨i1.fr S1.ok f2, i2⟩, .cons (v1.mono le2) v2⟩

set_option maxRecDepth 100000 in
/-- a law that holds on the machine, whatever comes in, holds of the program -/
theorem looks_by {f : FuncId} (shs : List Sh) {W : World} {base : Nat} {args : Array Value} {ds : List (DataW H)} {ps : List MemPlace} (hm : CutAt W)
    (walk : ∀ (h : Heap) (vs : List Value), HOK h → 0 < h.next → AllIn h shs vs → CW CC f vs h fun r h' => r = .bool true ∧ Fr h h')
    (hval : ∀ (j : Nat) t v, (shs.map Sh.ty)[j]? = some t → args[j]? = some v → Value.okWide Tryz.prog W .any base t v)
    (hA : DataW.TrodAll enc Tryz.prog W 0 (fun _ => true) true (shs.map Sh.ty) args.toList ds ps) : ds.length = (shs.map Sh.ty).length ∧ Calls Tryz.prog f args W (Looked W) := by
  obtain ⟨e, μ, h, vs, _, S, _, hi, hr⟩ := start_all shs (Start.zero (C := CC) rfl (goodP CC drawOK) W) (fun j t v q r => hval j t v q (by rw [← Array.getElem?_toList] at *; exact r)) hA
  exact ⟨e, looked_of hm S hr (walk h vs S.ok S.rel.pos hi)⟩
end
end Go.Am
