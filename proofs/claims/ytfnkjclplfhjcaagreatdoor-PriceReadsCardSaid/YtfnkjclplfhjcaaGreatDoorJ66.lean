/- Parts 66 of the abstract machine over this program, joined: what each part says stands at its head. -/
import Derived.Test.YtfnkjclplfhjcaaGreatDoorJ65
set_option linter.unusedSimpArgs false
set_option linter.unusedVariables false
/- The abstract machine, part 66: sheets and lists that come in; the given row of PriceBetween. -/
namespace Go.Am
open Go Go.Proofs Go.ChangeShapes Go.WideShapes Go.RowKit Go.Proofs.YtfnkjclplfhjcaaGreatDoor

section
variable {H : Type} {enc : TypeId × Value → H}

set_option maxRecDepth 100000 in
theorem ints_in {w : World} {V : Value} {d : DataW H} {ps : List MemPlace} {base : Nat} (hok : Value.okWide Tryz.prog w .any base 22 V) (h : DataW.Trod enc Tryz.prog w 0 (fun _ => true) true 22 V d ps) :
    ∃ xs : List Int, SliceIn w V xs ints 1 := by
  obtain ⟨a, l, c, rfl⟩ := okWide_slice Tryz.underlying22 hok
  obtain ⟨n, h⟩ := h
  exact slice_in Tryz.underlying22 c3 (by decide) ints_len (fun n cs x h => int_cells Tryz.underlying3 h) h

set_option maxRecDepth 100000 in
/-- a sheet comes in -/
theorem sheet_in {w : World} {V : Value} {d : DataW H} {ps : List MemPlace} {base : Nat} (hok : Value.okWide Tryz.prog w .any base 26 V) (h : DataW.Trod enc Tryz.prog w 0 (fun _ => true) true 26 V d ps) :
    ∃ (A B C : Value) (s : Sheet), V = .agg ⟨[A, B, C]⟩ ∧ SliceIn w A s.offs ints 1 ∧ SliceIn w B s.boards Board.cells 5 ∧ SliceIn w C s.tars Tar.cells 5 := by
  obtain ⟨cs, rfl, hsz⟩ := okWide_struct Tryz.underlying26 hok
  rw [c26] at hsz
  obtain ⟨L⟩ := cs
  obtain ⟨A, B, C, rfl⟩ := len3 (show L.length = 3 from hsz)
  obtain ⟨n, h⟩ := h
  have h' : DataW.trod enc Tryz.prog w 0 (fun _ => true) true n 26 [A, B, C] = some (d, ps) := h
  clear h
  obtain ⟨xs, m, rfl, _, hl, hx, hf⟩ := DataW.trod_struct Tryz.underlying26 h'
  clear h'
  have hx3 : xs.length = 3 := hx
  match xs, hx3 with
  | [x0, x1, x2], _ =>
    have h0 := fieldAt hf 0 22 0 1 x0 rfl c22 rfl
    have h1 := fieldAt hf 1 23 1 1 x1 rfl c23 rfl
    have h2 := fieldAt hf 2 24 2 1 x2 rfl c24 rfl
    clear hf
    obtain ⟨o, ho⟩ := slice_in (V := A) (f := ints) Tryz.underlying22 c3 (by decide) ints_len (fun n cs x h => int_cells Tryz.underlying3 h) h0
    obtain ⟨b, hb⟩ := slice_in (V := B) (f := Board.cells) Tryz.underlying23 c72 (by decide) Board.len (fun n cs x h => board_cells h) h1
    obtain ⟨t, ht⟩ := slice_in (V := C) (f := Tar.cells) Tryz.underlying24 c41 (by decide) Tar.len (fun n cs x h => tar_cells h) h2
    exact ⟨A, B, C, ⟨o, b, t⟩, rfl, ho, hb, ht⟩
end

theorem VRel.agg3 {μ : Mu} {a b c A B C : Value} (h1 : VRel μ a A) (h2 : VRel μ b B) (h3 : VRel μ c C) : VRel μ (.agg ⟨[a, b, c]⟩) (.agg ⟨[A, B, C]⟩) :=
  have q : VRels μ [a, b, c] [A, B, C] := .cons h1 (.cons h2 (.cons h3 .nil))
  .agg _ _ q.1 q.2

end Go.Am
