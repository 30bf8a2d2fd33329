/- PriceJust: the law returns true whatever comes in, and its input reads as it did. -/
import Derived.Test.YtfnkjclplfhjcaaGreatDoorJ80
import Derived.Test.YtfnkjclplfhjcaaGreatDoorJ111
set_option linter.unusedSimpArgs false
set_option linter.unusedVariables false
namespace Go.Am
open Go Go.Proofs Go.ChangeShapes Go.WideShapes Go.RowKit Go.Proofs.YtfnkjclplfhjcaaGreatDoor

theorem priceJust_walk (h : Heap) (vs : List Value) (hk : HOK h) (hp : 0 < h.next) (q : AllIn h [.sheet, .num, .nums, .num] vs) : CW CC 13 vs h fun r h' => r = .bool true ∧ Fr h h' := by
  obtain ⟨x0, vs0, rfl, q0, q⟩ := q.cons
  obtain ⟨x1, vs1, rfl, q1, q⟩ := q.cons
  obtain ⟨x2, vs2, rfl, q2, q⟩ := q.cons
  obtain ⟨x3, vs3, rfl, q3, q⟩ := q.cons
  obtain rfl := q.nil
  obtain ⟨a, b, c, s, rfl, hs⟩ := q0
  obtain ⟨n1, rfl⟩ := q1
  obtain ⟨l2, hl2⟩ := q2
  obtain ⟨n3, rfl⟩ := q3
  exact just_13 hk hp hs hl2 n1 n3

theorem priceJust_len {α : Type} {ds : List α} (h : ds.length = 4) : ∃ a b c d, ds = [a, b, c, d] := by
  match ds, h with
  | [a, b, c, d], _ => exact ⟨a, b, c, d, rfl⟩

set_option maxRecDepth 100000 in
theorem priceJust_lifted (os : Os) (started : os.Started) (H : Type) (enc : TypeId × Value → H) :
    ReturnsInHanded {} Tryz.checked os 13 .any (fun w args => (Rows.priceJustSpec.pre enc Tryz.prog Tryz.f13 [] false w args ∧ laidMetH Tryz.prog Rows.priceJustRow.laid w) ∧ sizedMet enc Tryz.prog Tryz.f13 (OpenSpec.ofChange Rows.priceJustSpec) false w args)
      (Rows.priceJustSpec.post enc Tryz.prog Tryz.f13 false true false false) := by
  refine returns_laid (laid := Rows.priceJustRow.laid) started (by kernel_rfl) Tryz.func13
    (ChangeSpec.witness_shaped (enc := enc) (C := Tryz.checked) (os := os) (X := fun w _ => laidMetH Tryz.prog Rows.priceJustRow.laid w) false (tabled 1200 os) #[.agg ⟨[.slice none 0 0, .slice none 0 0, .slice none 0 0]⟩, .int .i64 0, .slice none 0 0, .int .i64 0] 8 rfl (tabled_shaped os _) (by kernel_rfl) (by kernel_rfl) (by kernel_rfl) (tabled_met os _))
    rfl (by kernel_rfl) (by kernel_rfl) ?_ (fun _ _ hh h => laidMet.of_heap hh h) ?_
  · intro ds hd
    rw [Tryz.params13] at hd
    obtain ⟨a, b, c, d, rfl⟩ := priceJust_len hd
    rfl
  · intro W base args ds ps hm _ hval hA
    rw [Tryz.params13] at hval hA ⊢
    exact looks_by [.sheet, .num, .nums, .num] hm priceJust_walk (fun j t v q r => hval j t v (by rw [← Array.getElem?_toList]; exact q) r) hA
end Go.Am
