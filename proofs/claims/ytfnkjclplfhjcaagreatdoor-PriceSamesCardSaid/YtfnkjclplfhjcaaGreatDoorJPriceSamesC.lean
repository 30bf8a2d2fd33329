/- PriceSames: the row and its tied card, proved. -/
import Derived.Test.YtfnkjclplfhjcaaGreatDoorJPriceSamesA
import Derived.Test.YtfnkjclplfhjcaaGreatDoorJPriceSamesB
import Derived.Test.YtfnkjclplfhjcaaGreatDoorCards
import Derived.Test.YtfnkjclplfhjcaaGreatDoorTie
set_option linter.unusedSimpArgs false
set_option linter.unusedVariables false
namespace Go.Proofs.YtfnkjclplfhjcaaGreatDoor
open Go Go.Am Go.ChangeShapes Go.WideShapes Go.RowKit

set_option maxRecDepth 100000 in
theorem priceSames_named : Tryz.pinned.checked.prog.funcNamed Rows.priceSamesRow.func = some 6 := by kernel_rfl
theorem priceSames_inst : Tryz.f6.isInstance Tryz.pinned.checked.prog Rows.priceSamesRow.origin Rows.priceSamesRow.targs := of_decide_eq_true (by kernel_rfl)
theorem priceSames_wrap : Tryz.f6.isWrapper Tryz.pinned.checked.prog Rows.priceSamesRow.wrapper Rows.priceSamesRow.mainSum := by
  unfold Func.isWrapper
  first | (rw [if_pos (by decide +kernel)]; kernel_rfl) | (rw [if_neg (by decide +kernel)]; exact ⟨rfl, rfl⟩)

set_option maxRecDepth 100000 in
theorem priceSames_holds : Rows.PriceSamesSaid :=
  OpenClaim.holds_of_wide 6 Tryz.f6 rfl rfl rfl rfl rfl rfl rfl ⟨rfl, rfl, rfl, rfl, rfl⟩ rfl rfl rfl rfl rfl priceSames_named Tryz.func6 priceSames_facts
    priceSames_inst priceSames_wrap (fun os started H enc _ => priceSames_lifted os started H enc)

theorem priceSames_wf : OpenClaim.wfByText (OpenSpec.ofChange Rows.priceSamesSpec) Rows.priceSamesRow = true := by kernel_rfl
theorem main_is : Tryz.pinned.checked.prog.mainIs = some (true, "fd4a78dda9e3c4c42444e8171c75da0f7e25d27c3fa8e6685907fbcc17903124".toList) := by kernel_rfl
theorem looks_so : true = Tryz.pinned.checked.prog.looks [] := by kernel_rfl
theorem priceSames_goes : false = Rows.priceSamesRow.goesBy Tryz.pinned.checked.prog := by kernel_rfl
theorem stands3 : Tryz.prog.wantsStandIn 3 = false := by kernel_rfl
theorem stands26 : Tryz.prog.wantsStandIn 26 = false := by kernel_rfl

set_option maxRecDepth 100000 in
/-- THE TIED CARD OF PriceSames. -/
theorem priceSamesCard_holds : Rows.PriceSamesCardSaid :=
  Claim7.holds_tied_plain_at .later [] [.data, .data, .data, .data, .pinned] true (true, "fd4a78dda9e3c4c42444e8171c75da0f7e25d27c3fa8e6685907fbcc17903124") true
    priceSames_holds (fun _ h => by cases h) priceSames_wf (fun _ h => by cases h) priceSames_row_tie rfl ⟨rfl, rfl⟩ main_is rfl
    (fun f fn hf hfn => by
      obtain rfl : f = 6 := Option.some.inj (priceSames_named.symm.trans hf) |>.symm
      obtain rfl : fn = Tryz.f6 := (Option.some.inj (Tryz.func6.symm.trans hfn)).symm
      exact ⟨looks_so, fun j t ht => by
        rw [Tryz.params6] at ht
        rcases j with _ | _ | _ | j
        · obtain rfl : t = 26 := by simpa using ht.symm
          exact stands26
        · obtain rfl : t = 3 := by simpa using ht.symm
          exact stands3
        · obtain rfl : t = 3 := by simpa using ht.symm
          exact stands3
        · simp at ht⟩)
    priceSames_goes
#print axioms priceSamesCard_holds
end Go.Proofs.YtfnkjclplfhjcaaGreatDoor
