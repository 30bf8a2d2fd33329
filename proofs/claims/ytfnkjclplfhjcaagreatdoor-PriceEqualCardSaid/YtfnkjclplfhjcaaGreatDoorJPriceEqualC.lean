/- PriceEqual: the row and its tied card, proved. -/
import Derived.Test.YtfnkjclplfhjcaaGreatDoorJPriceEqualA
import Derived.Test.YtfnkjclplfhjcaaGreatDoorJPriceEqualB
import Derived.Test.YtfnkjclplfhjcaaGreatDoorCards
import Derived.Test.YtfnkjclplfhjcaaGreatDoorTie
set_option linter.unusedSimpArgs false
set_option linter.unusedVariables false
namespace Go.Proofs.YtfnkjclplfhjcaaGreatDoor
open Go Go.Am Go.ChangeShapes Go.WideShapes Go.RowKit

set_option maxRecDepth 100000 in
theorem priceEqual_named : Tryz.pinned.checked.prog.funcNamed Rows.priceEqualRow.func = some 7 := by kernel_rfl
theorem priceEqual_inst : Tryz.f7.isInstance Tryz.pinned.checked.prog Rows.priceEqualRow.origin Rows.priceEqualRow.targs := of_decide_eq_true (by kernel_rfl)
theorem priceEqual_wrap : Tryz.f7.isWrapper Tryz.pinned.checked.prog Rows.priceEqualRow.wrapper Rows.priceEqualRow.mainSum := by
  unfold Func.isWrapper
  first | (rw [if_pos (by decide +kernel)]; kernel_rfl) | (rw [if_neg (by decide +kernel)]; exact ⟨rfl, rfl⟩)

set_option maxRecDepth 100000 in
theorem priceEqual_holds : Rows.PriceEqualSaid :=
  OpenClaim.holds_of_wide 7 Tryz.f7 rfl rfl rfl rfl rfl rfl rfl ⟨rfl, rfl, rfl, rfl, rfl⟩ rfl rfl rfl rfl rfl priceEqual_named Tryz.func7 priceEqual_facts
    priceEqual_inst priceEqual_wrap (fun os started H enc _ => priceEqual_lifted os started H enc)

theorem priceEqual_wf : OpenClaim.wfByText (OpenSpec.ofChange Rows.priceEqualSpec) Rows.priceEqualRow = true := by kernel_rfl
theorem main_is : Tryz.pinned.checked.prog.mainIs = some (true, "fd4a78dda9e3c4c42444e8171c75da0f7e25d27c3fa8e6685907fbcc17903124".toList) := by kernel_rfl
theorem looks_so : true = Tryz.pinned.checked.prog.looks [] := by kernel_rfl
theorem priceEqual_goes : false = Rows.priceEqualRow.goesBy Tryz.pinned.checked.prog := by kernel_rfl
theorem stands3 : Tryz.prog.wantsStandIn 3 = false := by kernel_rfl
theorem stands22 : Tryz.prog.wantsStandIn 22 = false := by kernel_rfl
theorem stands26 : Tryz.prog.wantsStandIn 26 = false := by kernel_rfl

set_option maxRecDepth 100000 in
/-- THE TIED CARD OF PriceEqual. -/
theorem priceEqualCard_holds : Rows.PriceEqualCardSaid :=
  Claim7.holds_tied_plain_at .later [] [.data, .data, .data, .data, .pinned] true (true, "fd4a78dda9e3c4c42444e8171c75da0f7e25d27c3fa8e6685907fbcc17903124") true
    priceEqual_holds (fun _ h => by cases h) priceEqual_wf (fun _ h => by cases h) priceEqual_row_tie rfl ⟨rfl, rfl⟩ main_is rfl
    (fun f fn hf hfn => by
      obtain rfl : f = 7 := Option.some.inj (priceEqual_named.symm.trans hf) |>.symm
      obtain rfl : fn = Tryz.f7 := (Option.some.inj (Tryz.func7.symm.trans hfn)).symm
      exact ⟨looks_so, fun j t ht => by
        rw [Tryz.params7] at ht
        rcases j with _ | _ | _ | _ | j
        · obtain rfl : t = 26 := by simpa using ht.symm
          exact stands26
        · obtain rfl : t = 3 := by simpa using ht.symm
          exact stands3
        · obtain rfl : t = 3 := by simpa using ht.symm
          exact stands3
        · obtain rfl : t = 22 := by simpa using ht.symm
          exact stands22
        · simp at ht⟩)
    priceEqual_goes
#print axioms priceEqualCard_holds
end Go.Proofs.YtfnkjclplfhjcaaGreatDoor
