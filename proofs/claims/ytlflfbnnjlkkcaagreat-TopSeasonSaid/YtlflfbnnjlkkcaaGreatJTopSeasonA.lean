/- TopSeason: the law returns true whatever comes in, and its input reads as it did. -/
import Derived.Test.YtlflfbnnjlkkcaaGreatJS20
set_option linter.unusedSimpArgs false
set_option linter.unusedVariables false
set_option linter.defProp false
namespace Go.Am
open Go Go.Proofs Go.ChangeShapes Go.WideShapes Go.RowKit Go.Proofs.YtlflfbnnjlkkcaaGreat
theorem topSeason_len {α : Type} {ds : List α} (h : ds.length = 2) : ∃ a b, ds = [a, b] := by
  match ds, h with
  | [a, b], _ => exact ⟨a, b, rfl⟩

set_option maxRecDepth 100000 in
theorem topSeason_lifted (os : Os) (started : os.Started) (H : Type) (enc : TypeId × Value → H) :
    ReturnsInHanded {} Tryz.checked os 5 .any (fun w args => Rows.topSeasonSpec.pre enc Tryz.prog Tryz.f5 [] false w args ∧ sizedMet enc Tryz.prog Tryz.f5 (OpenSpec.ofChange Rows.topSeasonSpec) false w args)
      (Rows.topSeasonSpec.post enc Tryz.prog Tryz.f5 false true false false) := by
  refine returns_plain started (by kernel_rfl) Tryz.func5
    (ChangeSpec.witness_shaped (enc := enc) (C := Tryz.checked) (os := os) (X := fun _ _ => True) false (World.doorLaid Tryz.prog 100 os) #[.agg ⟨[.slice none 0 0, .slice none 0 0, .slice none 0 0]⟩, .int .i64 0] 8 rfl (door_shaped os _) (by kernel_rfl) (by kernel_rfl) (by kernel_rfl) trivial)
    rfl (by kernel_rfl) (by kernel_rfl) ?_ ?_
  · intro ds hd
    rw [Tryz.params5] at hd
    obtain ⟨a, b, rfl⟩ := topSeason_len hd
    rfl
  · intro W base args ds ps hval hA
    rw [Tryz.params5] at hval hA ⊢
    exact season_looks (fun j t v q r => hval j t v (by rw [← Array.getElem?_toList]; exact q) r) hA
end Go.Am
