/- PriceOwes: the row and its tied card, proved. -/
import Derived.Test.YtfnkjclplfhjcaaGreatDoorJPriceOwesA
import Derived.Test.YtfnkjclplfhjcaaGreatDoorJPriceOwesB
import Derived.Test.YtfnkjclplfhjcaaGreatDoorCards
import Derived.Test.YtfnkjclplfhjcaaGreatDoorTie
set_option linter.unusedSimpArgs false
set_option linter.unusedVariables false
namespace Go.Proofs.YtfnkjclplfhjcaaGreatDoor
open Go Go.Am Go.ChangeShapes Go.WideShapes Go.RowKit

set_option maxRecDepth 100000 in
theorem priceOwes_named : Tryz.pinned.checked.prog.funcNamed Rows.priceOwesRow.func = some 14 := by kernel_rfl
theorem priceOwes_inst : Tryz.f14.isInstance Tryz.pinned.checked.prog Rows.priceOwesRow.origin Rows.priceOwesRow.targs := of_decide_eq_true (by kernel_rfl)
theorem priceOwes_wrap : Tryz.f14.isWrapper Tryz.pinned.checked.prog Rows.priceOwesRow.wrapper Rows.priceOwesRow.mainSum := by
  unfold Func.isWrapper
  first | (rw [if_pos (by decide +kernel)]; kernel_rfl) | (rw [if_neg (by decide +kernel)]; exact ⟨rfl, rfl⟩)

set_option maxRecDepth 100000 in
theorem priceOwes_holds : Rows.PriceOwesSaid :=
  OpenClaim.holds_of_wide 14 Tryz.f14 rfl rfl rfl rfl rfl rfl rfl ⟨rfl, rfl, rfl, rfl, rfl⟩ rfl rfl rfl rfl rfl priceOwes_named Tryz.func14 priceOwes_facts
    priceOwes_inst priceOwes_wrap (fun os started H enc _ => priceOwes_lifted os started H enc)

theorem priceOwes_wf : OpenClaim.wfByText (OpenSpec.ofChange Rows.priceOwesSpec) Rows.priceOwesRow = true := by kernel_rfl
theorem main_is : Tryz.pinned.checked.prog.mainIs = some (true, "fd4a78dda9e3c4c42444e8171c75da0f7e25d27c3fa8e6685907fbcc17903124".toList) := by kernel_rfl
theorem looks_so : true = Tryz.pinned.checked.prog.looks [] := by kernel_rfl
theorem priceOwes_goes : false = Rows.priceOwesRow.goesBy Tryz.pinned.checked.prog := by kernel_rfl
theorem stands3 : Tryz.prog.wantsStandIn 3 = false := by kernel_rfl
theorem stands22 : Tryz.prog.wantsStandIn 22 = false := by kernel_rfl
theorem stands26 : Tryz.prog.wantsStandIn 26 = false := by kernel_rfl

set_option maxRecDepth 100000 in
/-- THE TIED CARD OF PriceOwes. -/
theorem priceOwesCard_holds : Rows.PriceOwesCardSaid :=
  Claim7.holds_tied_plain_at .later [] [.data, .data, .data, .data, .pinned] true (true, "fd4a78dda9e3c4c42444e8171c75da0f7e25d27c3fa8e6685907fbcc17903124") true
    priceOwes_holds (fun _ h => by cases h) priceOwes_wf (fun _ h => by cases h) priceOwes_row_tie rfl ⟨rfl, rfl⟩ main_is rfl
    (fun f fn hf hfn => by
      obtain rfl : f = 14 := Option.some.inj (priceOwes_named.symm.trans hf) |>.symm
      obtain rfl : fn = Tryz.f14 := (Option.some.inj (Tryz.func14.symm.trans hfn)).symm
      exact ⟨looks_so, fun j t ht => by
        rw [Tryz.params14] at ht
        rcases j with _ | _ | _ | j
        · obtain rfl : t = 26 := by simpa using ht.symm
          exact stands26
        · obtain rfl : t = 3 := by simpa using ht.symm
          exact stands3
        · obtain rfl : t = 22 := by simpa using ht.symm
          exact stands22
        · simp at ht⟩)
    priceOwes_goes
#print axioms priceOwesCard_holds
end Go.Proofs.YtfnkjclplfhjcaaGreatDoor
