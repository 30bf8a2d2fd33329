/- PriceMoved: the row and its tied card, proved. -/
import Derived.Test.YtfnkjclplfhjcaaGreatDoorJPriceMovedA
import Derived.Test.YtfnkjclplfhjcaaGreatDoorJPriceMovedB
import Derived.Test.YtfnkjclplfhjcaaGreatDoorCards
import Derived.Test.YtfnkjclplfhjcaaGreatDoorTie
set_option linter.unusedSimpArgs false
set_option linter.unusedVariables false
namespace Go.Proofs.YtfnkjclplfhjcaaGreatDoor
open Go Go.Am Go.ChangeShapes Go.WideShapes Go.RowKit

set_option maxRecDepth 100000 in
theorem priceMoved_named : Tryz.pinned.checked.prog.funcNamed Rows.priceMovedRow.func = some 17 := by kernel_rfl
theorem priceMoved_inst : Tryz.f17.isInstance Tryz.pinned.checked.prog Rows.priceMovedRow.origin Rows.priceMovedRow.targs := of_decide_eq_true (by kernel_rfl)
theorem priceMoved_wrap : Tryz.f17.isWrapper Tryz.pinned.checked.prog Rows.priceMovedRow.wrapper Rows.priceMovedRow.mainSum := by
  unfold Func.isWrapper
  first | (rw [if_pos (by decide +kernel)]; kernel_rfl) | (rw [if_neg (by decide +kernel)]; exact ⟨rfl, rfl⟩)

set_option maxRecDepth 100000 in
theorem priceMoved_holds : Rows.PriceMovedSaid :=
  OpenClaim.holds_of_wide 17 Tryz.f17 rfl rfl rfl rfl rfl rfl rfl ⟨rfl, rfl, rfl, rfl, rfl⟩ rfl rfl rfl rfl rfl priceMoved_named Tryz.func17 priceMoved_facts
    priceMoved_inst priceMoved_wrap (fun os started H enc _ => priceMoved_lifted os started H enc)

theorem priceMoved_wf : OpenClaim.wfByText (OpenSpec.ofChange Rows.priceMovedSpec) Rows.priceMovedRow = true := by kernel_rfl
theorem main_is : Tryz.pinned.checked.prog.mainIs = some (true, "fd4a78dda9e3c4c42444e8171c75da0f7e25d27c3fa8e6685907fbcc17903124".toList) := by kernel_rfl
theorem looks_so : true = Tryz.pinned.checked.prog.looks [] := by kernel_rfl
theorem priceMoved_goes : false = Rows.priceMovedRow.goesBy Tryz.pinned.checked.prog := by kernel_rfl
theorem stands3 : Tryz.prog.wantsStandIn 3 = false := by kernel_rfl
theorem stands22 : Tryz.prog.wantsStandIn 22 = false := by kernel_rfl
theorem stands26 : Tryz.prog.wantsStandIn 26 = false := by kernel_rfl

set_option maxRecDepth 100000 in
/-- THE TIED CARD OF PriceMoved. -/
theorem priceMovedCard_holds : Rows.PriceMovedCardSaid :=
  Claim7.holds_tied_plain_at .later [] [.data, .data, .data, .data, .pinned] true (true, "fd4a78dda9e3c4c42444e8171c75da0f7e25d27c3fa8e6685907fbcc17903124") true
    priceMoved_holds (fun _ h => by cases h) priceMoved_wf (fun _ h => by cases h) priceMoved_row_tie rfl ⟨rfl, rfl⟩ main_is rfl
    (fun f fn hf hfn => by
      obtain rfl : f = 17 := Option.some.inj (priceMoved_named.symm.trans hf) |>.symm
      obtain rfl : fn = Tryz.f17 := (Option.some.inj (Tryz.func17.symm.trans hfn)).symm
      exact ⟨looks_so, fun j t ht => by
        rw [Tryz.params17] at ht
        rcases j with _ | _ | _ | _ | _ | j
        · obtain rfl : t = 26 := by simpa using ht.symm
          exact stands26
        · obtain rfl : t = 3 := by simpa using ht.symm
          exact stands3
        · obtain rfl : t = 22 := by simpa using ht.symm
          exact stands22
        · obtain rfl : t = 3 := by simpa using ht.symm
          exact stands3
        · obtain rfl : t = 3 := by simpa using ht.symm
          exact stands3
        · simp at ht⟩)
    priceMoved_goes
#print axioms priceMovedCard_holds
end Go.Proofs.YtfnkjclplfhjcaaGreatDoor
