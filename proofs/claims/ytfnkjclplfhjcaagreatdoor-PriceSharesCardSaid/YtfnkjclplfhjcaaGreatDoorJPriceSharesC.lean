/- PriceShares: the row and its tied card, proved. -/
import Derived.Test.YtfnkjclplfhjcaaGreatDoorJPriceSharesA
import Derived.Test.YtfnkjclplfhjcaaGreatDoorJPriceSharesB
import Derived.Test.YtfnkjclplfhjcaaGreatDoorCards
import Derived.Test.YtfnkjclplfhjcaaGreatDoorTie
set_option linter.unusedSimpArgs false
set_option linter.unusedVariables false
namespace Go.Proofs.YtfnkjclplfhjcaaGreatDoor
open Go Go.Am Go.ChangeShapes Go.WideShapes Go.RowKit

set_option maxRecDepth 100000 in
theorem priceShares_named : Tryz.pinned.checked.prog.funcNamed Rows.priceSharesRow.func = some 12 := by kernel_rfl
theorem priceShares_inst : Tryz.f12.isInstance Tryz.pinned.checked.prog Rows.priceSharesRow.origin Rows.priceSharesRow.targs := of_decide_eq_true (by kernel_rfl)
theorem priceShares_wrap : Tryz.f12.isWrapper Tryz.pinned.checked.prog Rows.priceSharesRow.wrapper Rows.priceSharesRow.mainSum := by
  unfold Func.isWrapper
  first | (rw [if_pos (by decide +kernel)]; kernel_rfl) | (rw [if_neg (by decide +kernel)]; exact ⟨rfl, rfl⟩)

set_option maxRecDepth 100000 in
theorem priceShares_holds : Rows.PriceSharesSaid :=
  OpenClaim.holds_of_wide 12 Tryz.f12 rfl rfl rfl rfl rfl rfl rfl ⟨rfl, rfl, rfl, rfl, rfl⟩ rfl rfl rfl rfl rfl priceShares_named Tryz.func12 priceShares_facts
    priceShares_inst priceShares_wrap (fun os started H enc _ => priceShares_lifted os started H enc)

theorem priceShares_wf : OpenClaim.wfByText (OpenSpec.ofChange Rows.priceSharesSpec) Rows.priceSharesRow = true := by kernel_rfl
theorem main_is : Tryz.pinned.checked.prog.mainIs = some (true, "fd4a78dda9e3c4c42444e8171c75da0f7e25d27c3fa8e6685907fbcc17903124".toList) := by kernel_rfl
theorem looks_so : true = Tryz.pinned.checked.prog.looks [] := by kernel_rfl
theorem priceShares_goes : false = Rows.priceSharesRow.goesBy Tryz.pinned.checked.prog := by kernel_rfl
theorem stands3 : Tryz.prog.wantsStandIn 3 = false := by kernel_rfl
theorem stands22 : Tryz.prog.wantsStandIn 22 = false := by kernel_rfl
theorem stands26 : Tryz.prog.wantsStandIn 26 = false := by kernel_rfl

set_option maxRecDepth 100000 in
/-- THE TIED CARD OF PriceShares. -/
theorem priceSharesCard_holds : Rows.PriceSharesCardSaid :=
  Claim7.holds_tied_plain_at .later [] [.data, .data, .data, .data, .pinned] true (true, "fd4a78dda9e3c4c42444e8171c75da0f7e25d27c3fa8e6685907fbcc17903124") true
    priceShares_holds (fun _ h => by cases h) priceShares_wf (fun _ h => by cases h) priceShares_row_tie rfl ⟨rfl, rfl⟩ main_is rfl
    (fun f fn hf hfn => by
      obtain rfl : f = 12 := Option.some.inj (priceShares_named.symm.trans hf) |>.symm
      obtain rfl : fn = Tryz.f12 := (Option.some.inj (Tryz.func12.symm.trans hfn)).symm
      exact ⟨looks_so, fun j t ht => by
        rw [Tryz.params12] at ht
        rcases j with _ | _ | _ | j
        · obtain rfl : t = 26 := by simpa using ht.symm
          exact stands26
        · obtain rfl : t = 3 := by simpa using ht.symm
          exact stands3
        · obtain rfl : t = 22 := by simpa using ht.symm
          exact stands22
        · simp at ht⟩)
    priceShares_goes
#print axioms priceSharesCard_holds
end Go.Proofs.YtfnkjclplfhjcaaGreatDoor
