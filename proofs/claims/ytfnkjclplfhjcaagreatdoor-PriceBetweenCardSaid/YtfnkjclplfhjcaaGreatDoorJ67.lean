/- Parts 67 of the abstract machine over this program, joined: what each part says stands at its head. -/
import Derived.Test.YtfnkjclplfhjcaaGreatDoorJ56
import Derived.Test.YtfnkjclplfhjcaaGreatDoorJ66
set_option linter.unusedSimpArgs false
set_option linter.unusedVariables false
/- THE ROW OF PriceBetween, proved: the law returns true whatever comes in, and its input reads as it did. -/
namespace Go.Am
open Go Go.Proofs Go.ChangeShapes Go.WideShapes Go.RowKit Go.Proofs.YtfnkjclplfhjcaaGreatDoor

set_option maxRecDepth 100000 in
theorem between_looks {H : Type} {enc : TypeId × Value → H} {W : World} {base : Nat} {args : Array Value} {ds : List (DataW H)} {ps : List MemPlace} (hm : CutAt W)
    (hval : ∀ (j : Nat) t v, Tryz.f3.params[j]? = some t → args[j]? = some v → Value.okWide Tryz.prog W .any base t v)
    (hA : DataW.TrodAll enc Tryz.prog W 0 (fun _ => true) true Tryz.f3.params.toList args.toList ds ps) : ds.length = Tryz.f3.params.toList.length ∧ Calls Tryz.prog 3 args W (Looked W) := by
  rw [Tryz.params3] at hA hval ⊢
  obtain ⟨v0, v1, v2, d0, d1, d2, p0, p1, p2, rfl, rfl, rfl, t0, t1, t2⟩ := trodAll_three hA
  refine ⟨rfl, ?_⟩
  obtain ⟨A, B, C, s, rfl, qA, qB, qC⟩ := sheet_in (hval 0 26 v0 rfl rfl) t0
  obtain ⟨n, rfl⟩ := okWide_int Tryz.underlying3 (hval 1 3 v1 rfl rfl)
  obtain ⟨l, hl⟩ := ints_in (hval 2 22 v2 rfl rfl) t2
  obtain ⟨μ, h, a, b, c, S, hp, hs, ra, rb, rc⟩ := start_sheet qA qB qC
  obtain ⟨μ', h', v, le, S', fr, rv, hv⟩ := start_slice S ints_len ints_plain hl
  exact looked_of hm S' (.cons ((VRel.agg3 ra rb rc).mono le) (.cons (.plain _ rfl) (.cons rv .nil))) (between_3 S'.ok S'.rel.pos (hs.fr S.ok fr) hv n)
theorem three {α : Type} {ds : List α} (h : ds.length = 3) : ∃ a b c, ds = [a, b, c] := by
  match ds, h with
  | [a, b, c], _ => exact ⟨a, b, c, rfl⟩

set_option maxRecDepth 100000 in
theorem between_lifted (os : Os) (started : os.Started) (H : Type) (enc : TypeId × Value → H) :
    ReturnsInHanded {} Tryz.checked os 3 .any (fun w args => (Rows.priceBetweenSpec.pre enc Tryz.prog Tryz.f3 [] false w args ∧ laidMetH Tryz.prog Rows.priceBetweenRow.laid w) ∧ sizedMet enc Tryz.prog Tryz.f3 (OpenSpec.ofChange Rows.priceBetweenSpec) false w args)
      (Rows.priceBetweenSpec.post enc Tryz.prog Tryz.f3 false true false false) := by
  refine returns_laid (laid := Rows.priceBetweenRow.laid) started (by kernel_rfl) Tryz.func3
    (ChangeSpec.witness_shaped (enc := enc) (C := Tryz.checked) (os := os) (X := fun w _ => laidMetH Tryz.prog Rows.priceBetweenRow.laid w) false (tabled 1200 os) #[.agg ⟨[.slice none 0 0, .slice none 0 0, .slice none 0 0]⟩, .int .i64 0, .slice none 0 0] 8 rfl (tabled_shaped os _) (by kernel_rfl) (by kernel_rfl) (by kernel_rfl) (tabled_met os _))
    rfl (by kernel_rfl) (by kernel_rfl) ?_ (fun _ _ hh h => laidMet.of_heap hh h) ?_
  · intro ds hd
    rw [Tryz.params3] at hd
    obtain ⟨a, b, c, rfl⟩ := three hd
    rfl
  · intro W base args ds ps hm _ hval hA
    exact between_looks hm hval hA

end Go.Am
