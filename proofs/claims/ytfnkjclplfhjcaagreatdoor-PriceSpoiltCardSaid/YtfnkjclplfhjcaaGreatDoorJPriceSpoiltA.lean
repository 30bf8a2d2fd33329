/- PriceSpoilt: the law returns true whatever comes in, and its input reads as it did. -/
import Derived.Test.YtfnkjclplfhjcaaGreatDoorJ80
import Derived.Test.YtfnkjclplfhjcaaGreatDoorJ151
set_option linter.unusedSimpArgs false
set_option linter.unusedVariables false
namespace Go.Am
open Go Go.Proofs Go.ChangeShapes Go.WideShapes Go.RowKit Go.Proofs.YtfnkjclplfhjcaaGreatDoor

theorem priceSpoilt_walk (h : Heap) (vs : List Value) (hk : HOK h) (hp : 0 < h.next) (q : AllIn h [.sheet, .num, .num] vs) : CW CC 21 vs h fun r h' => r = .bool true ∧ Fr h h' := by
  obtain ⟨x0, vs0, rfl, q0, q⟩ := q.cons
  obtain ⟨x1, vs1, rfl, q1, q⟩ := q.cons
  obtain ⟨x2, vs2, rfl, q2, q⟩ := q.cons
  obtain rfl := q.nil
  obtain ⟨a, b, c, s, rfl, hs⟩ := q0
  obtain ⟨n1, rfl⟩ := q1
  obtain ⟨n2, rfl⟩ := q2
  exact spoilt_21 hk hp hs  n1 n2

theorem priceSpoilt_len {α : Type} {ds : List α} (h : ds.length = 3) : ∃ a b c, ds = [a, b, c] := by
  match ds, h with
  | [a, b, c], _ => exact ⟨a, b, c, rfl⟩

set_option maxRecDepth 100000 in
theorem priceSpoilt_lifted (os : Os) (started : os.Started) (H : Type) (enc : TypeId × Value → H) :
    ReturnsInHanded {} Tryz.checked os 21 .any (fun w args => (Rows.priceSpoiltSpec.pre enc Tryz.prog Tryz.f21 [] false w args ∧ laidMetH Tryz.prog Rows.priceSpoiltRow.laid w) ∧ sizedMet enc Tryz.prog Tryz.f21 (OpenSpec.ofChange Rows.priceSpoiltSpec) false w args)
      (Rows.priceSpoiltSpec.post enc Tryz.prog Tryz.f21 false true false false) := by
  refine returns_laid (laid := Rows.priceSpoiltRow.laid) started (by kernel_rfl) Tryz.func21
    (ChangeSpec.witness_shaped (enc := enc) (C := Tryz.checked) (os := os) (X := fun w _ => laidMetH Tryz.prog Rows.priceSpoiltRow.laid w) false (tabled 1200 os) #[.agg ⟨[.slice none 0 0, .slice none 0 0, .slice none 0 0]⟩, .int .i64 0, .int .i64 0] 8 rfl (tabled_shaped os _) (by kernel_rfl) (by kernel_rfl) (by kernel_rfl) (tabled_met os _))
    rfl (by kernel_rfl) (by kernel_rfl) ?_ (fun _ _ hh h => laidMet.of_heap hh h) (fun w h => tab_laid w h) ?_
  · intro ds hd
    rw [Tryz.params21] at hd
    obtain ⟨a, b, c, rfl⟩ := priceSpoilt_len hd
    rfl
  · intro W base args ds ps hm _ hval hA
    rw [Tryz.params21] at hval hA ⊢
    exact looks_by [.sheet, .num, .num] hm priceSpoilt_walk (fun j t v q r => hval j t v (by rw [← Array.getElem?_toList]; exact q) r) hA
end Go.Am
