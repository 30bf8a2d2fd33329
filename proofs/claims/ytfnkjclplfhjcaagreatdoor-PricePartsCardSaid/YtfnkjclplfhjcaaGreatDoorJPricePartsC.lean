/- PriceParts: the row and its tied card, proved. -/
import Derived.Test.YtfnkjclplfhjcaaGreatDoorJPricePartsA
import Derived.Test.YtfnkjclplfhjcaaGreatDoorJPricePartsB
import Derived.Test.YtfnkjclplfhjcaaGreatDoorCards
import Derived.Test.YtfnkjclplfhjcaaGreatDoorTie
set_option linter.unusedSimpArgs false
set_option linter.unusedVariables false
namespace Go.Proofs.YtfnkjclplfhjcaaGreatDoor
open Go Go.Am Go.ChangeShapes Go.WideShapes Go.RowKit

set_option maxRecDepth 100000 in
theorem priceParts_named : Tryz.pinned.checked.prog.funcNamed Rows.pricePartsRow.func = some 4 := by kernel_rfl
theorem priceParts_inst : Tryz.f4.isInstance Tryz.pinned.checked.prog Rows.pricePartsRow.origin Rows.pricePartsRow.targs := of_decide_eq_true (by kernel_rfl)
theorem priceParts_wrap : Tryz.f4.isWrapper Tryz.pinned.checked.prog Rows.pricePartsRow.wrapper Rows.pricePartsRow.mainSum := by
  unfold Func.isWrapper
  first | (rw [if_pos (by decide +kernel)]; kernel_rfl) | (rw [if_neg (by decide +kernel)]; exact ⟨rfl, rfl⟩)

set_option maxRecDepth 100000 in
theorem priceParts_holds : Rows.PricePartsSaid :=
  OpenClaim.holds_of_wide 4 Tryz.f4 rfl rfl rfl rfl rfl rfl rfl ⟨rfl, rfl, rfl, rfl, rfl⟩ rfl rfl rfl rfl rfl priceParts_named Tryz.func4 priceParts_facts
    priceParts_inst priceParts_wrap (fun os started H enc _ => priceParts_lifted os started H enc)

theorem priceParts_wf : OpenClaim.wfByText (OpenSpec.ofChange Rows.pricePartsSpec) Rows.pricePartsRow = true := by kernel_rfl
theorem main_is : Tryz.pinned.checked.prog.mainIs = some (true, "fd4a78dda9e3c4c42444e8171c75da0f7e25d27c3fa8e6685907fbcc17903124".toList) := by kernel_rfl
theorem looks_so : true = Tryz.pinned.checked.prog.looks [] := by kernel_rfl
theorem priceParts_goes : false = Rows.pricePartsRow.goesBy Tryz.pinned.checked.prog := by kernel_rfl
theorem stands3 : Tryz.prog.wantsStandIn 3 = false := by kernel_rfl
theorem stands22 : Tryz.prog.wantsStandIn 22 = false := by kernel_rfl
theorem stands26 : Tryz.prog.wantsStandIn 26 = false := by kernel_rfl

set_option maxRecDepth 100000 in
/-- THE TIED CARD OF PriceParts. -/
theorem pricePartsCard_holds : Rows.PricePartsCardSaid :=
  Claim7.holds_tied_plain_at .later [] [.data, .data, .data, .data, .pinned] true (true, "fd4a78dda9e3c4c42444e8171c75da0f7e25d27c3fa8e6685907fbcc17903124") true
    priceParts_holds (fun _ h => by cases h) priceParts_wf (fun _ h => by cases h) priceParts_row_tie rfl ⟨rfl, rfl⟩ main_is rfl
    (fun f fn hf hfn => by
      obtain rfl : f = 4 := Option.some.inj (priceParts_named.symm.trans hf) |>.symm
      obtain rfl : fn = Tryz.f4 := (Option.some.inj (Tryz.func4.symm.trans hfn)).symm
      exact ⟨looks_so, fun j t ht => by
        rw [Tryz.params4] at ht
        rcases j with _ | _ | _ | j
        · obtain rfl : t = 26 := by simpa using ht.symm
          exact stands26
        · obtain rfl : t = 3 := by simpa using ht.symm
          exact stands3
        · obtain rfl : t = 22 := by simpa using ht.symm
          exact stands22
        · simp at ht⟩)
    priceParts_goes
#print axioms pricePartsCard_holds
end Go.Proofs.YtfnkjclplfhjcaaGreatDoor
