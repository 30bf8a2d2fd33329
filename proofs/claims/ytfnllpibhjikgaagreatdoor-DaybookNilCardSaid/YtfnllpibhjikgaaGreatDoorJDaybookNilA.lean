/- DaybookNil: the law returns true whatever comes in, and its input reads as it did. -/
import Derived.Test.YtfnllpibhjikgaaGreatDoorJD66
import Derived.Test.YtfnllpibhjikgaaGreatDoorJDNil
set_option linter.unusedSimpArgs false
set_option linter.unusedVariables false
namespace Go.Am
open Go Go.Proofs Go.ChangeShapes Go.WideShapes Go.RowKit Go.Proofs.YtfnllpibhjikgaaGreatDoor

theorem daybookNil_walk (h : Heap) (vs : List Value) (hk : HOK h) (hp : 0 < h.next) (q : AllIn h [.entry, .question] vs) : CW CC 5 vs h fun r h' => r = .bool true ∧ Fr h h' := by
  obtain ⟨x0, vs0, rfl, q0, q⟩ := q.cons
  obtain ⟨x1, vs1, rfl, q1, q⟩ := q.cons
  obtain rfl := q.nil
  obtain ⟨k0, a0, l0, rfl, hl0⟩ := q0
  obtain ⟨k1, a1, l1, rfl, hl1⟩ := q1
  exact nil_5 hk hp k0 hl0 k1 hl1

theorem daybookNil_len {α : Type} {ds : List α} (h : ds.length = 2) : ∃ a b, ds = [a, b] := by
  match ds, h with
  | [a, b], _ => exact ⟨a, b, rfl⟩

set_option maxRecDepth 100000 in
theorem daybookNil_lifted (os : Os) (started : os.Started) (H : Type) (enc : TypeId × Value → H) :
    ReturnsInHanded {} Tryz.checked os 5 .any (fun w args => (Rows.daybookNilSpec.pre enc Tryz.prog Tryz.f5 [] false w args ∧ laidMetH Tryz.prog Rows.daybookNilRow.laid w) ∧ sizedMet enc Tryz.prog Tryz.f5 (OpenSpec.ofChange Rows.daybookNilSpec) false w args)
      (Rows.daybookNilSpec.post enc Tryz.prog Tryz.f5 false true false false) := by
  refine returns_laid (laid := Rows.daybookNilRow.laid) started (by kernel_rfl) Tryz.func5
    (ChangeSpec.witness_shaped (enc := enc) (C := Tryz.checked) (os := os) (X := fun w _ => laidMetH Tryz.prog Rows.daybookNilRow.laid w) false (tabled 1200 os) #[.agg ⟨[.int .i64 0, .slice none 0 0]⟩, .agg ⟨[.int .i64 0, .slice none 0 0]⟩] 8 rfl (tabled_shaped os _) (by kernel_rfl) (by kernel_rfl) (by kernel_rfl) (tabled_met os _))
    rfl (by kernel_rfl) (by kernel_rfl) ?_ (fun _ _ hh h => laidMet.of_heap hh h) (fun w h => tab_laid w h) ?_
  · intro ds hd
    rw [Tryz.params5] at hd
    obtain ⟨a, b, rfl⟩ := daybookNil_len hd
    rfl
  · intro W base args ds ps hm _ hval hA
    rw [Tryz.params5] at hval hA ⊢
    exact looks_by [.entry, .question] hm daybookNil_walk (fun j t v q r => hval j t v (by rw [← Array.getElem?_toList]; exact q) r) hA
end Go.Am
