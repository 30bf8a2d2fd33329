/- PriceReads: the law returns true whatever comes in, and its input reads as it did. -/
import Derived.Test.YtfnkjclplfhjcaaGreatDoorJ80
import Derived.Test.YtfnkjclplfhjcaaGreatDoorJ150
set_option linter.unusedSimpArgs false
set_option linter.unusedVariables false
namespace Go.Am
open Go Go.Proofs Go.ChangeShapes Go.WideShapes Go.RowKit Go.Proofs.YtfnkjclplfhjcaaGreatDoor

theorem priceReads_walk (h : Heap) (vs : List Value) (hk : HOK h) (hp : 0 < h.next) (q : AllIn h [.str] vs) : CW CC 20 vs h fun r h' => r = .bool true ∧ Fr h h' := by
  obtain ⟨x0, vs0, rfl, q0, q⟩ := q.cons
  obtain rfl := q.nil
  obtain ⟨s0, rfl⟩ := q0
  exact reads_20 hk hp   s0.data.toList

theorem priceReads_len {α : Type} {ds : List α} (h : ds.length = 1) : ∃ a, ds = [a] := by
  match ds, h with
  | [a], _ => exact ⟨a, rfl⟩

set_option maxRecDepth 100000 in
theorem priceReads_lifted (os : Os) (started : os.Started) (H : Type) (enc : TypeId × Value → H) :
    ReturnsInHanded {} Tryz.checked os 20 .any (fun w args => (Rows.priceReadsSpec.pre enc Tryz.prog Tryz.f20 [] false w args ∧ laidMetH Tryz.prog Rows.priceReadsRow.laid w) ∧ sizedMet enc Tryz.prog Tryz.f20 (OpenSpec.ofChange Rows.priceReadsSpec) false w args)
      (Rows.priceReadsSpec.post enc Tryz.prog Tryz.f20 false true false false) := by
  refine returns_laid (laid := Rows.priceReadsRow.laid) started (by kernel_rfl) Tryz.func20
    (ChangeSpec.witness_shaped (enc := enc) (C := Tryz.checked) (os := os) (X := fun w _ => laidMetH Tryz.prog Rows.priceReadsRow.laid w) false (tabled 1200 os) #[.string ⟨#[]⟩] 8 rfl (tabled_shaped os _) (by kernel_rfl) (by kernel_rfl) (by kernel_rfl) (tabled_met os _))
    rfl (by kernel_rfl) (by kernel_rfl) ?_ (fun _ _ hh h => laidMet.of_heap hh h) (fun w h => tab_laid w h) ?_
  · intro ds hd
    rw [Tryz.params20] at hd
    obtain ⟨a, rfl⟩ := priceReads_len hd
    rfl
  · intro W base args ds ps hm _ hval hA
    rw [Tryz.params20] at hval hA ⊢
    exact looks_by [.str] hm priceReads_walk (fun j t v q r => hval j t v (by rw [← Array.getElem?_toList]; exact q) r) hA
end Go.Am
