/- Parts 80 of the abstract machine over this program, joined: what each part says stands at its head. -/
import Derived.Test.YtfnkjclplfhjcaaGreatDoorJ66
set_option linter.unusedSimpArgs false
set_option linter.unusedVariables false
/- The abstract machine, part 80: arguments of any of the laws: sheets, numbers, lists of numbers. -/
namespace Go.Am
open Go Go.Proofs Go.ChangeShapes Go.WideShapes Go.RowKit Go.Proofs.YtfnkjclplfhjcaaGreatDoor

/-- what an argument is -/
inductive Sh where
  | sheet | num | nums | str
def Sh.ty : Sh → TypeId
  | .sheet => 26
  | .num => 3
  | .nums => 22
  | .str => 9
/-- an argument on the machine -/
def Sh.In (h : Heap) : Sh → Value → Prop
  | .sheet, v => ∃ (a b c : Value) (s : Sheet), v = .agg ⟨[a, b, c]⟩ ∧ IsSheet h a b c s
  | .num, v => ∃ n, v = .int .i64 n
  | .nums, v => ∃ l : List Int, LS h v l ints 1
  | .str, v => ∃ s : ByteArray, v = .string s
def AllIn (h : Heap) : List Sh → List Value → Prop
  | [], [] => True
  | s :: ss, v :: vs => s.In h v ∧ AllIn h ss vs
  | _, _ => False

theorem AllIn.cons {h : Heap} {s : Sh} {ss : List Sh} {vs : List Value} (q : AllIn h (s :: ss) vs) : ∃ v vs', vs = v :: vs' ∧ s.In h v ∧ AllIn h ss vs' := by
  cases vs with
  | nil => exact q.elim
  | cons v vs => exact ⟨v, vs, rfl, q.1, q.2⟩
theorem AllIn.nil {h : Heap} {vs : List Value} (q : AllIn h [] vs) : vs = [] := by
  cases vs with
  | nil => rfl
  | cons v vs => exact q.elim

theorem Sh.In.fr {h h' : Heap} (hk : HOK h) (f : Fr h h') {s : Sh} {v : Value} (q : s.In h v) : s.In h' v := by
  cases s with
  | sheet => obtain ⟨a, b, c, s, rfl, q⟩ := q; exact ⟨a, b, c, s, rfl, q.fr hk f⟩
  | num => exact q
  | nums => obtain ⟨l, q⟩ := q; exact ⟨l, q.fr hk f⟩
  | str => exact q

section
variable {H : Type} {enc : TypeId × Value → H}

set_option maxRecDepth 100000 in
theorem start_all {w : World} {base : Nat} : ∀ (shs : List Sh) {args : List Value} {ds : List (DataW H)} {ps : List MemPlace} {μ0 : Mu} {h0 : Heap},
    Start CC (goodP CC drawOK) w μ0 h0 → (∀ (j : Nat) t v, (shs.map Sh.ty)[j]? = some t → args[j]? = some v → Value.okWide Tryz.prog w .any base t v) →
    DataW.TrodAll enc Tryz.prog w 0 (fun _ => true) true (shs.map Sh.ty) args ds ps →
    ds.length = (shs.map Sh.ty).length ∧ ∃ μ h vs, μ0.le μ ∧ Start CC (goodP CC drawOK) w μ h ∧ Fr h0 h ∧ AllIn h shs vs ∧ VRels μ vs args := by
  intro shs
  induction shs with
  | nil =>
    intro args ds ps μ0 h0 S _ ht
    obtain ⟨rfl, rfl, rfl⟩ := trodAll_nil ht
    exact ⟨rfl, μ0, h0, [], fun _ _ a => a, S, Fr.refl S.ok, trivial, .nil⟩
  | cons sh shs ih =>
    intro args ds ps μ0 h0 S hval ht
    obtain ⟨v, vs1, d, ds1, a, b, rfl, rfl, rfl, h1, h2⟩ := trodAll_cons ht
    have hv0 : Value.okWide Tryz.prog w .any base sh.ty v := hval 0 sh.ty v rfl rfl
    have hvs : ∀ (j : Nat) t x, (shs.map Sh.ty)[j]? = some t → vs1[j]? = some x → Value.okWide Tryz.prog w .any base t x := fun j t x q r => hval (j + 1) t x q r
    have one : ∃ μ1 h1 x, μ0.le μ1 ∧ Start CC (goodP CC drawOK) w μ1 h1 ∧ Fr h0 h1 ∧ sh.In h1 x ∧ VRel μ1 x v := by
      cases sh with
      | sheet =>
        obtain ⟨A, B, C, s, rfl, qA, qB, qC⟩ := sheet_in hv0 h1
        obtain ⟨μ1, h1, a, l1, S1, f1, v1, q1⟩ := start_slice S ints_len ints_plain qA
        obtain ⟨μ2, h2, b, l2, S2, f2, v2, q2⟩ := start_slice S1 Board.len board_plain qB
        obtain ⟨μ3, h3, c, l3, S3, f3, v3, q3⟩ := start_slice S2 Tar.len tar_plain qC
        exact ⟨μ3, h3, .agg ⟨[a, b, c]⟩, fun x y q => l3 x y (l2 x y (l1 x y q)), S3, (f1.trans f2).trans f3, ⟨a, b, c, s, rfl, ⟨(q1.fr S1.ok f2).fr S2.ok f3, q2.fr S2.ok f3, q3⟩⟩, VRel.agg3 ((v1.mono l2).mono l3) (v2.mono l3) v3⟩
      | num =>
        obtain ⟨n, rfl⟩ := okWide_int Tryz.underlying3 hv0
        exact ⟨μ0, h0, _, fun _ _ a => a, S, Fr.refl S.ok, ⟨n, rfl⟩, .plain _ rfl⟩
      | nums =>
        obtain ⟨l, hl⟩ := ints_in hv0 h1
        obtain ⟨μ1, h1, x, l1, S1, f1, v1, q1⟩ := start_slice S ints_len ints_plain hl
        exact ⟨μ1, h1, x, l1, S1, f1, ⟨l, q1⟩, v1⟩
      | str =>
        obtain ⟨s, rfl⟩ := okWide_string Tryz.underlying9 hv0
        exact ⟨μ0, h0, _, fun _ _ a => a, S, Fr.refl S.ok, ⟨s, rfl⟩, .plain _ rfl⟩
    obtain ⟨μ1, h1, x, le1, S1, f1, i1, v1⟩ := one
    obtain ⟨e, μ2, h2', xs, le2, S2, f2, i2, v2⟩ := ih S1 hvs h2
    exact ⟨by simp at e ⊢; exact e, μ2, h2', x :: xs, fun p q r => le2 p q (le1 p q r), S2, f1.trans f2, ⟨i1.fr S1.ok f2, i2⟩, .cons (v1.mono le2) v2⟩

set_option maxRecDepth 100000 in
/-- a law that holds on the machine, whatever comes in, holds of the program -/
theorem looks_by {f : FuncId} (shs : List Sh) {W : World} {base : Nat} {args : Array Value} {ds : List (DataW H)} {ps : List MemPlace} (hm : CutAt W)
    (walk : ∀ (h : Heap) (vs : List Value), HOK h → 0 < h.next → AllIn h shs vs → CW CC f vs h fun r h' => r = .bool true ∧ Fr h h')
    (hval : ∀ (j : Nat) t v, (shs.map Sh.ty)[j]? = some t → args[j]? = some v → Value.okWide Tryz.prog W .any base t v)
    (hA : DataW.TrodAll enc Tryz.prog W 0 (fun _ => true) true (shs.map Sh.ty) args.toList ds ps) : ds.length = (shs.map Sh.ty).length ∧ Calls Tryz.prog f args W (Looked W) := by
  obtain ⟨e, μ, h, vs, _, S, _, hi, hr⟩ := start_all shs (Start.zero (C := CC) rfl (goodP CC drawOK) W) (fun j t v q r => hval j t v q (by rw [← Array.getElem?_toList] at *; exact r)) hA
  exact ⟨e, looked_of hm S hr (walk h vs S.ok S.rel.pos hi)⟩
end
end Go.Am
