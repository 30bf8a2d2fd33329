/- DaybookLines: the law returns true whatever comes in, and its input reads as it did. -/
import Derived.Test.YtfnllpibhjikgaaGreatDoorJD66
import Derived.Test.YtfnllpibhjikgaaGreatDoorJDLines
set_option linter.unusedSimpArgs false
set_option linter.unusedVariables false
namespace Go.Am
open Go Go.Proofs Go.ChangeShapes Go.WideShapes Go.RowKit Go.Proofs.YtfnllpibhjikgaaGreatDoor

theorem daybookLines_walk (h : Heap) (vs : List Value) (hk : HOK h) (hp : 0 < h.next) (q : AllIn h [.entry] vs) : CW CC 3 vs h fun r h' => r = .bool true ∧ Fr h h' := by
  obtain ⟨x0, vs0, rfl, q0, q⟩ := q.cons
  obtain rfl := q.nil
  obtain ⟨k0, a0, l0, rfl, hl0⟩ := q0
  exact lines_3 hk hp k0 hl0

theorem daybookLines_len {α : Type} {ds : List α} (h : ds.length = 1) : ∃ a, ds = [a] := by
  match ds, h with
  | [a], _ => exact ⟨a, rfl⟩

set_option maxRecDepth 100000 in
theorem daybookLines_lifted (os : Os) (started : os.Started) (H : Type) (enc : TypeId × Value → H) :
    ReturnsInHanded {} Tryz.checked os 3 .any (fun w args => (Rows.daybookLinesSpec.pre enc Tryz.prog Tryz.f3 [] false w args ∧ laidMetH Tryz.prog Rows.daybookLinesRow.laid w) ∧ sizedMet enc Tryz.prog Tryz.f3 (OpenSpec.ofChange Rows.daybookLinesSpec) false w args)
      (Rows.daybookLinesSpec.post enc Tryz.prog Tryz.f3 false true false false) := by
  refine returns_laid (laid := Rows.daybookLinesRow.laid) started (by kernel_rfl) Tryz.func3
    (ChangeSpec.witness_shaped (enc := enc) (C := Tryz.checked) (os := os) (X := fun w _ => laidMetH Tryz.prog Rows.daybookLinesRow.laid w) false (tabled 1200 os) #[.agg ⟨[.int .i64 0, .slice none 0 0]⟩] 8 rfl (tabled_shaped os _) (by kernel_rfl) (by kernel_rfl) (by kernel_rfl) (tabled_met os _))
    rfl (by kernel_rfl) (by kernel_rfl) ?_ (fun _ _ hh h => laidMet.of_heap hh h) (fun w h => tab_laid w h) ?_
  · intro ds hd
    rw [Tryz.params3] at hd
    obtain ⟨a, rfl⟩ := daybookLines_len hd
    rfl
  · intro W base args ds ps hm _ hval hA
    rw [Tryz.params3] at hval hA ⊢
    exact looks_by [.entry] hm daybookLines_walk (fun j t v q r => hval j t v (by rw [← Array.getElem?_toList]; exact q) r) hA
end Go.Am
