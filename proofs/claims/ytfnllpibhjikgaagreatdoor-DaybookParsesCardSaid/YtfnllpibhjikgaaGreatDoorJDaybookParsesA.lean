/- DaybookParses: the law returns true whatever comes in, and its input reads as it did. -/
import Derived.Test.YtfnllpibhjikgaaGreatDoorJD66
import Derived.Test.YtfnllpibhjikgaaGreatDoorJDParses
set_option linter.unusedSimpArgs false
set_option linter.unusedVariables false
namespace Go.Am
open Go Go.Proofs Go.ChangeShapes Go.WideShapes Go.RowKit Go.Proofs.YtfnllpibhjikgaaGreatDoor

theorem daybookParses_walk (h : Heap) (vs : List Value) (hk : HOK h) (hp : 0 < h.next) (q : AllIn h [.str] vs) : CW CC 4 vs h fun r h' => r = .bool true ∧ Fr h h' := by
  obtain ⟨x0, vs0, rfl, q0, q⟩ := q.cons
  obtain rfl := q.nil
  obtain ⟨s0, rfl⟩ := q0
  exact parses_4 hk hp s0.data.toList

theorem daybookParses_len {α : Type} {ds : List α} (h : ds.length = 1) : ∃ a, ds = [a] := by
  match ds, h with
  | [a], _ => exact ⟨a, rfl⟩

set_option maxRecDepth 100000 in
theorem daybookParses_lifted (os : Os) (started : os.Started) (H : Type) (enc : TypeId × Value → H) :
    ReturnsInHanded {} Tryz.checked os 4 .any (fun w args => (Rows.daybookParsesSpec.pre enc Tryz.prog Tryz.f4 [] false w args ∧ laidMetH Tryz.prog Rows.daybookParsesRow.laid w) ∧ sizedMet enc Tryz.prog Tryz.f4 (OpenSpec.ofChange Rows.daybookParsesSpec) false w args)
      (Rows.daybookParsesSpec.post enc Tryz.prog Tryz.f4 false true false false) := by
  refine returns_laid (laid := Rows.daybookParsesRow.laid) started (by kernel_rfl) Tryz.func4
    (ChangeSpec.witness_shaped (enc := enc) (C := Tryz.checked) (os := os) (X := fun w _ => laidMetH Tryz.prog Rows.daybookParsesRow.laid w) false (tabled 1200 os) #[.string ⟨#[]⟩] 8 rfl (tabled_shaped os _) (by kernel_rfl) (by kernel_rfl) (by kernel_rfl) (tabled_met os _))
    rfl (by kernel_rfl) (by kernel_rfl) ?_ (fun _ _ hh h => laidMet.of_heap hh h) (fun w h => tab_laid w h) ?_
  · intro ds hd
    rw [Tryz.params4] at hd
    obtain ⟨a, rfl⟩ := daybookParses_len hd
    rfl
  · intro W base args ds ps hm _ hval hA
    rw [Tryz.params4] at hval hA ⊢
    exact looks_by [.str] hm daybookParses_walk (fun j t v q r => hval j t v (by rw [← Array.getElem?_toList]; exact q) r) hA
end Go.Am
