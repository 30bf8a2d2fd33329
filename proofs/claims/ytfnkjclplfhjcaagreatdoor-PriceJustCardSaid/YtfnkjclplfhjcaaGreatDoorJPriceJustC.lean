/- PriceJust: the row and its tied card, proved. -/
import Derived.Test.YtfnkjclplfhjcaaGreatDoorJPriceJustA
import Derived.Test.YtfnkjclplfhjcaaGreatDoorJPriceJustB
import Derived.Test.YtfnkjclplfhjcaaGreatDoorCards
import Derived.Test.YtfnkjclplfhjcaaGreatDoorTie
set_option linter.unusedSimpArgs false
set_option linter.unusedVariables false
namespace Go.Proofs.YtfnkjclplfhjcaaGreatDoor
open Go Go.Am Go.ChangeShapes Go.WideShapes Go.RowKit

set_option maxRecDepth 100000 in
theorem priceJust_named : Tryz.pinned.checked.prog.funcNamed Rows.priceJustRow.func = some 13 := by kernel_rfl
theorem priceJust_inst : Tryz.f13.isInstance Tryz.pinned.checked.prog Rows.priceJustRow.origin Rows.priceJustRow.targs := of_decide_eq_true (by kernel_rfl)
theorem priceJust_wrap : Tryz.f13.isWrapper Tryz.pinned.checked.prog Rows.priceJustRow.wrapper Rows.priceJustRow.mainSum := by
  unfold Func.isWrapper
  first | (rw [if_pos (by decide +kernel)]; kernel_rfl) | (rw [if_neg (by decide +kernel)]; exact ⟨rfl, rfl⟩)

set_option maxRecDepth 100000 in
theorem priceJust_holds : Rows.PriceJustSaid :=
  OpenClaim.holds_of_wide 13 Tryz.f13 rfl rfl rfl rfl rfl rfl rfl ⟨rfl, rfl, rfl, rfl, rfl⟩ rfl rfl rfl rfl rfl priceJust_named Tryz.func13 priceJust_facts
    priceJust_inst priceJust_wrap (fun os started H enc _ => priceJust_lifted os started H enc)

theorem priceJust_wf : OpenClaim.wfByText (OpenSpec.ofChange Rows.priceJustSpec) Rows.priceJustRow = true := by kernel_rfl
theorem main_is : Tryz.pinned.checked.prog.mainIs = some (true, "fd4a78dda9e3c4c42444e8171c75da0f7e25d27c3fa8e6685907fbcc17903124".toList) := by kernel_rfl
theorem looks_so : true = Tryz.pinned.checked.prog.looks [] := by kernel_rfl
theorem priceJust_goes : false = Rows.priceJustRow.goesBy Tryz.pinned.checked.prog := by kernel_rfl
theorem stands3 : Tryz.prog.wantsStandIn 3 = false := by kernel_rfl
theorem stands22 : Tryz.prog.wantsStandIn 22 = false := by kernel_rfl
theorem stands26 : Tryz.prog.wantsStandIn 26 = false := by kernel_rfl

set_option maxRecDepth 100000 in
/-- THE TIED CARD OF PriceJust. -/
theorem priceJustCard_holds : Rows.PriceJustCardSaid :=
  Claim7.holds_tied_plain_at .later [] [.data, .data, .data, .data, .pinned] true (true, "fd4a78dda9e3c4c42444e8171c75da0f7e25d27c3fa8e6685907fbcc17903124") true
    priceJust_holds (fun _ h => by cases h) priceJust_wf (fun _ h => by cases h) priceJust_row_tie rfl ⟨rfl, rfl⟩ main_is rfl
    (fun f fn hf hfn => by
      obtain rfl : f = 13 := Option.some.inj (priceJust_named.symm.trans hf) |>.symm
      obtain rfl : fn = Tryz.f13 := (Option.some.inj (Tryz.func13.symm.trans hfn)).symm
      exact ⟨looks_so, fun j t ht => by
        rw [Tryz.params13] at ht
        rcases j with _ | _ | _ | _ | j
        · obtain rfl : t = 26 := by simpa using ht.symm
          exact stands26
        · obtain rfl : t = 3 := by simpa using ht.symm
          exact stands3
        · obtain rfl : t = 22 := by simpa using ht.symm
          exact stands22
        · obtain rfl : t = 3 := by simpa using ht.symm
          exact stands3
        · simp at ht⟩)
    priceJust_goes
#print axioms priceJustCard_holds
end Go.Proofs.YtfnkjclplfhjcaaGreatDoor
