/- TopMixes: the law returns true whatever comes in, and its input reads as it did. -/
import Derived.Test.YtlflfbnnjlkkcaaGreatJT62
set_option linter.unusedSimpArgs false
set_option linter.unusedVariables false
namespace Go.Am
open Go Go.Proofs Go.ChangeShapes Go.WideShapes Go.RowKit Go.Proofs.YtlflfbnnjlkkcaaGreat
theorem topMixes_len {α : Type} {ds : List α} (h : ds.length = 3) : ∃ a b c, ds = [a, b, c] := by
  match ds, h with
  | [a, b, c], _ => exact ⟨a, b, c, rfl⟩

set_option maxRecDepth 100000 in
theorem topMixes_lifted (os : Os) (started : os.Started) (H : Type) (enc : TypeId × Value → H) :
    ReturnsInHanded {} Tryz.checked os 4 .any (fun w args => Rows.topMixesSpec.pre enc Tryz.prog Tryz.f4 [] false w args ∧ sizedMet enc Tryz.prog Tryz.f4 (OpenSpec.ofChange Rows.topMixesSpec) false w args)
      (Rows.topMixesSpec.post enc Tryz.prog Tryz.f4 false true false false) := by
  refine returns_plain started (by kernel_rfl) Tryz.func4
    (ChangeSpec.witness_shaped (enc := enc) (C := Tryz.checked) (os := os) (X := fun _ _ => True) false (World.doorLaid Tryz.prog 100 os) #[.agg ⟨[.int .i64 0, .int .i64 0, .int .i64 0, .int .i64 0, .int .i64 0, .int .i64 0, .int .i64 0, .int .i64 0, .int .i64 0, .int .i64 0, .int .i64 0, .int .i64 0, .slice none 0 0]⟩, .int .i64 0, .slice none 0 0] 8 rfl (door_shaped os _) (by kernel_rfl) (by kernel_rfl) (by kernel_rfl) trivial)
    rfl (by kernel_rfl) (by kernel_rfl) ?_ ?_
  · intro ds hd
    rw [Tryz.params4] at hd
    obtain ⟨a, b, c, rfl⟩ := topMixes_len hd
    rfl
  · intro W base args ds ps hval hA
    rw [Tryz.params4] at hval hA ⊢
    exact mixes_looks (fun j t v q r => hval j t v (by rw [← Array.getElem?_toList]; exact q) r) hA
end Go.Am
