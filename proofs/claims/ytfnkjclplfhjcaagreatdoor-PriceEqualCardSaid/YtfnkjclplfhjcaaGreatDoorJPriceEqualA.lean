/- PriceEqual: the law returns true whatever comes in, and its input reads as it did. -/
import Derived.Test.YtfnkjclplfhjcaaGreatDoorJ80
import Derived.Test.YtfnkjclplfhjcaaGreatDoorJ126
set_option linter.unusedSimpArgs false
set_option linter.unusedVariables false
namespace Go.Am
open Go Go.Proofs Go.ChangeShapes Go.WideShapes Go.RowKit Go.Proofs.YtfnkjclplfhjcaaGreatDoor

theorem priceEqual_walk (h : Heap) (vs : List Value) (hk : HOK h) (hp : 0 < h.next) (q : AllIn h [.sheet, .num, .num, .nums] vs) : CW CC 7 vs h fun r h' => r = .bool true ∧ Fr h h' := by
  obtain ⟨x0, vs0, rfl, q0, q⟩ := q.cons
  obtain ⟨x1, vs1, rfl, q1, q⟩ := q.cons
  obtain ⟨x2, vs2, rfl, q2, q⟩ := q.cons
  obtain ⟨x3, vs3, rfl, q3, q⟩ := q.cons
  obtain rfl := q.nil
  obtain ⟨a, b, c, s, rfl, hs⟩ := q0
  obtain ⟨n1, rfl⟩ := q1
  obtain ⟨n2, rfl⟩ := q2
  obtain ⟨l3, hl3⟩ := q3
  exact equal_7 hk hp hs hl3 n1 n2

theorem priceEqual_len {α : Type} {ds : List α} (h : ds.length = 4) : ∃ a b c d, ds = [a, b, c, d] := by
  match ds, h with
  | [a, b, c, d], _ => exact ⟨a, b, c, d, rfl⟩

set_option maxRecDepth 100000 in
theorem priceEqual_lifted (os : Os) (started : os.Started) (H : Type) (enc : TypeId × Value → H) :
    ReturnsInHanded {} Tryz.checked os 7 .any (fun w args => (Rows.priceEqualSpec.pre enc Tryz.prog Tryz.f7 [] false w args ∧ laidMetH Tryz.prog Rows.priceEqualRow.laid w) ∧ sizedMet enc Tryz.prog Tryz.f7 (OpenSpec.ofChange Rows.priceEqualSpec) false w args)
      (Rows.priceEqualSpec.post enc Tryz.prog Tryz.f7 false true false false) := by
  refine returns_laid (laid := Rows.priceEqualRow.laid) started (by kernel_rfl) Tryz.func7
    (ChangeSpec.witness_shaped (enc := enc) (C := Tryz.checked) (os := os) (X := fun w _ => laidMetH Tryz.prog Rows.priceEqualRow.laid w) false (tabled 1200 os) #[.agg ⟨[.slice none 0 0, .slice none 0 0, .slice none 0 0]⟩, .int .i64 0, .int .i64 0, .slice none 0 0] 8 rfl (tabled_shaped os _) (by kernel_rfl) (by kernel_rfl) (by kernel_rfl) (tabled_met os _))
    rfl (by kernel_rfl) (by kernel_rfl) ?_ (fun _ _ hh h => laidMet.of_heap hh h) ?_
  · intro ds hd
    rw [Tryz.params7] at hd
    obtain ⟨a, b, c, d, rfl⟩ := priceEqual_len hd
    rfl
  · intro W base args ds ps hm _ hval hA
    rw [Tryz.params7] at hval hA ⊢
    exact looks_by [.sheet, .num, .num, .nums] hm priceEqual_walk (fun j t v q r => hval j t v (by rw [← Array.getElem?_toList]; exact q) r) hA
end Go.Am
