/- PriceMore: the row and its tied card, proved. -/
import Derived.Test.YtfnkjclplfhjcaaGreatDoorJPriceMoreA
import Derived.Test.YtfnkjclplfhjcaaGreatDoorJPriceMoreB
import Derived.Test.YtfnkjclplfhjcaaGreatDoorCards
import Derived.Test.YtfnkjclplfhjcaaGreatDoorTie
set_option linter.unusedSimpArgs false
set_option linter.unusedVariables false
namespace Go.Proofs.YtfnkjclplfhjcaaGreatDoor
open Go Go.Am Go.ChangeShapes Go.WideShapes Go.RowKit

set_option maxRecDepth 100000 in
theorem priceMore_named : Tryz.pinned.checked.prog.funcNamed Rows.priceMoreRow.func = some 16 := by kernel_rfl
theorem priceMore_inst : Tryz.f16.isInstance Tryz.pinned.checked.prog Rows.priceMoreRow.origin Rows.priceMoreRow.targs := of_decide_eq_true (by kernel_rfl)
theorem priceMore_wrap : Tryz.f16.isWrapper Tryz.pinned.checked.prog Rows.priceMoreRow.wrapper Rows.priceMoreRow.mainSum := by
  unfold Func.isWrapper
  first | (rw [if_pos (by decide +kernel)]; kernel_rfl) | (rw [if_neg (by decide +kernel)]; exact ⟨rfl, rfl⟩)

set_option maxRecDepth 100000 in
theorem priceMore_holds : Rows.PriceMoreSaid :=
  OpenClaim.holds_of_wide 16 Tryz.f16 rfl rfl rfl rfl rfl rfl rfl ⟨rfl, rfl, rfl, rfl, rfl⟩ rfl rfl rfl rfl rfl priceMore_named Tryz.func16 priceMore_facts
    priceMore_inst priceMore_wrap (fun os started H enc _ => priceMore_lifted os started H enc)

theorem priceMore_wf : OpenClaim.wfByText (OpenSpec.ofChange Rows.priceMoreSpec) Rows.priceMoreRow = true := by kernel_rfl
theorem main_is : Tryz.pinned.checked.prog.mainIs = some (true, "fd4a78dda9e3c4c42444e8171c75da0f7e25d27c3fa8e6685907fbcc17903124".toList) := by kernel_rfl
theorem looks_so : true = Tryz.pinned.checked.prog.looks [] := by kernel_rfl
theorem priceMore_goes : false = Rows.priceMoreRow.goesBy Tryz.pinned.checked.prog := by kernel_rfl
theorem stands3 : Tryz.prog.wantsStandIn 3 = false := by kernel_rfl
theorem stands22 : Tryz.prog.wantsStandIn 22 = false := by kernel_rfl
theorem stands26 : Tryz.prog.wantsStandIn 26 = false := by kernel_rfl

set_option maxRecDepth 100000 in
/-- THE TIED CARD OF PriceMore. -/
theorem priceMoreCard_holds : Rows.PriceMoreCardSaid :=
  Claim7.holds_tied_plain_at .later [] [.data, .data, .data, .data, .pinned] true (true, "fd4a78dda9e3c4c42444e8171c75da0f7e25d27c3fa8e6685907fbcc17903124") true
    priceMore_holds (fun _ h => by cases h) priceMore_wf (fun _ h => by cases h) priceMore_row_tie rfl ⟨rfl, rfl⟩ main_is rfl
    (fun f fn hf hfn => by
      obtain rfl : f = 16 := Option.some.inj (priceMore_named.symm.trans hf) |>.symm
      obtain rfl : fn = Tryz.f16 := (Option.some.inj (Tryz.func16.symm.trans hfn)).symm
      exact ⟨looks_so, fun j t ht => by
        rw [Tryz.params16] at ht
        rcases j with _ | _ | _ | _ | _ | _ | j
        · obtain rfl : t = 26 := by simpa using ht.symm
          exact stands26
        · obtain rfl : t = 3 := by simpa using ht.symm
          exact stands3
        · obtain rfl : t = 22 := by simpa using ht.symm
          exact stands22
        · obtain rfl : t = 3 := by simpa using ht.symm
          exact stands3
        · obtain rfl : t = 3 := by simpa using ht.symm
          exact stands3
        · obtain rfl : t = 3 := by simpa using ht.symm
          exact stands3
        · simp at ht⟩)
    priceMore_goes
#print axioms priceMoreCard_holds
end Go.Proofs.YtfnkjclplfhjcaaGreatDoor
