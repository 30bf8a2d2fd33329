/- PricePrints: the law returns true whatever comes in, and its input reads as it did. -/
import Derived.Test.YtfnkjclplfhjcaaGreatDoorJ80
import Derived.Test.YtfnkjclplfhjcaaGreatDoorJ149
set_option linter.unusedSimpArgs false
set_option linter.unusedVariables false
namespace Go.Am
open Go Go.Proofs Go.ChangeShapes Go.WideShapes Go.RowKit Go.Proofs.YtfnkjclplfhjcaaGreatDoor

theorem pricePrints_walk (h : Heap) (vs : List Value) (hk : HOK h) (hp : 0 < h.next) (q : AllIn h [.sheet] vs) : CW CC 19 vs h fun r h' => r = .bool true ∧ Fr h h' := by
  obtain ⟨x0, vs0, rfl, q0, q⟩ := q.cons
  obtain rfl := q.nil
  obtain ⟨a, b, c, s, rfl, hs⟩ := q0
  exact prints_19 hk hp hs  

theorem pricePrints_len {α : Type} {ds : List α} (h : ds.length = 1) : ∃ a, ds = [a] := by
  match ds, h with
  | [a], _ => exact ⟨a, rfl⟩

set_option maxRecDepth 100000 in
theorem pricePrints_lifted (os : Os) (started : os.Started) (H : Type) (enc : TypeId × Value → H) :
    ReturnsInHanded {} Tryz.checked os 19 .any (fun w args => (Rows.pricePrintsSpec.pre enc Tryz.prog Tryz.f19 [] false w args ∧ laidMetH Tryz.prog Rows.pricePrintsRow.laid w) ∧ sizedMet enc Tryz.prog Tryz.f19 (OpenSpec.ofChange Rows.pricePrintsSpec) false w args)
      (Rows.pricePrintsSpec.post enc Tryz.prog Tryz.f19 false true false false) := by
  refine returns_laid (laid := Rows.pricePrintsRow.laid) started (by kernel_rfl) Tryz.func19
    (ChangeSpec.witness_shaped (enc := enc) (C := Tryz.checked) (os := os) (X := fun w _ => laidMetH Tryz.prog Rows.pricePrintsRow.laid w) false (tabled 1200 os) #[.agg ⟨[.slice none 0 0, .slice none 0 0, .slice none 0 0]⟩] 8 rfl (tabled_shaped os _) (by kernel_rfl) (by kernel_rfl) (by kernel_rfl) (tabled_met os _))
    rfl (by kernel_rfl) (by kernel_rfl) ?_ (fun _ _ hh h => laidMet.of_heap hh h) (fun w h => tab_laid w h) ?_
  · intro ds hd
    rw [Tryz.params19] at hd
    obtain ⟨a, rfl⟩ := pricePrints_len hd
    rfl
  · intro W base args ds ps hm _ hval hA
    rw [Tryz.params19] at hval hA ⊢
    exact looks_by [.sheet] hm pricePrints_walk (fun j t v q r => hval j t v (by rw [← Array.getElem?_toList]; exact q) r) hA
end Go.Am
