/- PriceOff: the row and its tied card, proved. -/
import Derived.Test.YtfnkjclplfhjcaaGreatDoorJPriceOffA
import Derived.Test.YtfnkjclplfhjcaaGreatDoorJPriceOffB
import Derived.Test.YtfnkjclplfhjcaaGreatDoorCards
import Derived.Test.YtfnkjclplfhjcaaGreatDoorTie
set_option linter.unusedSimpArgs false
set_option linter.unusedVariables false
namespace Go.Proofs.YtfnkjclplfhjcaaGreatDoor
open Go Go.Am Go.ChangeShapes Go.WideShapes Go.RowKit

set_option maxRecDepth 100000 in
theorem priceOff_named : Tryz.pinned.checked.prog.funcNamed Rows.priceOffRow.func = some 15 := by kernel_rfl
theorem priceOff_inst : Tryz.f15.isInstance Tryz.pinned.checked.prog Rows.priceOffRow.origin Rows.priceOffRow.targs := of_decide_eq_true (by kernel_rfl)
theorem priceOff_wrap : Tryz.f15.isWrapper Tryz.pinned.checked.prog Rows.priceOffRow.wrapper Rows.priceOffRow.mainSum := by
  unfold Func.isWrapper
  first | (rw [if_pos (by decide +kernel)]; kernel_rfl) | (rw [if_neg (by decide +kernel)]; exact ⟨rfl, rfl⟩)

set_option maxRecDepth 100000 in
theorem priceOff_holds : Rows.PriceOffSaid :=
  OpenClaim.holds_of_wide 15 Tryz.f15 rfl rfl rfl rfl rfl rfl rfl ⟨rfl, rfl, rfl, rfl, rfl⟩ rfl rfl rfl rfl rfl priceOff_named Tryz.func15 priceOff_facts
    priceOff_inst priceOff_wrap (fun os started H enc _ => priceOff_lifted os started H enc)

theorem priceOff_wf : OpenClaim.wfByText (OpenSpec.ofChange Rows.priceOffSpec) Rows.priceOffRow = true := by kernel_rfl
theorem main_is : Tryz.pinned.checked.prog.mainIs = some (true, "fd4a78dda9e3c4c42444e8171c75da0f7e25d27c3fa8e6685907fbcc17903124".toList) := by kernel_rfl
theorem looks_so : true = Tryz.pinned.checked.prog.looks [] := by kernel_rfl
theorem priceOff_goes : false = Rows.priceOffRow.goesBy Tryz.pinned.checked.prog := by kernel_rfl
theorem stands3 : Tryz.prog.wantsStandIn 3 = false := by kernel_rfl
theorem stands22 : Tryz.prog.wantsStandIn 22 = false := by kernel_rfl
theorem stands26 : Tryz.prog.wantsStandIn 26 = false := by kernel_rfl

set_option maxRecDepth 100000 in
/-- THE TIED CARD OF PriceOff. -/
theorem priceOffCard_holds : Rows.PriceOffCardSaid :=
  Claim7.holds_tied_plain_at .later [] [.data, .data, .data, .data, .pinned] true (true, "fd4a78dda9e3c4c42444e8171c75da0f7e25d27c3fa8e6685907fbcc17903124") true
    priceOff_holds (fun _ h => by cases h) priceOff_wf (fun _ h => by cases h) priceOff_row_tie rfl ⟨rfl, rfl⟩ main_is rfl
    (fun f fn hf hfn => by
      obtain rfl : f = 15 := Option.some.inj (priceOff_named.symm.trans hf) |>.symm
      obtain rfl : fn = Tryz.f15 := (Option.some.inj (Tryz.func15.symm.trans hfn)).symm
      exact ⟨looks_so, fun j t ht => by
        rw [Tryz.params15] at ht
        rcases j with _ | _ | _ | _ | _ | j
        · obtain rfl : t = 26 := by simpa using ht.symm
          exact stands26
        · obtain rfl : t = 3 := by simpa using ht.symm
          exact stands3
        · obtain rfl : t = 22 := by simpa using ht.symm
          exact stands22
        · obtain rfl : t = 3 := by simpa using ht.symm
          exact stands3
        · obtain rfl : t = 3 := by simpa using ht.symm
          exact stands3
        · simp at ht⟩)
    priceOff_goes
#print axioms priceOffCard_holds
end Go.Proofs.YtfnkjclplfhjcaaGreatDoor
