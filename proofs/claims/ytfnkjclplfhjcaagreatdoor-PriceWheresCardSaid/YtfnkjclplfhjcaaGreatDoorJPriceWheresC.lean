/- PriceWheres: the row and its tied card, proved. -/
import Derived.Test.YtfnkjclplfhjcaaGreatDoorJPriceWheresA
import Derived.Test.YtfnkjclplfhjcaaGreatDoorJPriceWheresB
import Derived.Test.YtfnkjclplfhjcaaGreatDoorCards
import Derived.Test.YtfnkjclplfhjcaaGreatDoorTie
set_option linter.unusedSimpArgs false
set_option linter.unusedVariables false
namespace Go.Proofs.YtfnkjclplfhjcaaGreatDoor
open Go Go.Am Go.ChangeShapes Go.WideShapes Go.RowKit

set_option maxRecDepth 100000 in
theorem priceWheres_named : Tryz.pinned.checked.prog.funcNamed Rows.priceWheresRow.func = some 8 := by kernel_rfl
theorem priceWheres_inst : Tryz.f8.isInstance Tryz.pinned.checked.prog Rows.priceWheresRow.origin Rows.priceWheresRow.targs := of_decide_eq_true (by kernel_rfl)
theorem priceWheres_wrap : Tryz.f8.isWrapper Tryz.pinned.checked.prog Rows.priceWheresRow.wrapper Rows.priceWheresRow.mainSum := by
  unfold Func.isWrapper
  first | (rw [if_pos (by decide +kernel)]; kernel_rfl) | (rw [if_neg (by decide +kernel)]; exact ⟨rfl, rfl⟩)

set_option maxRecDepth 100000 in
theorem priceWheres_holds : Rows.PriceWheresSaid :=
  OpenClaim.holds_of_wide 8 Tryz.f8 rfl rfl rfl rfl rfl rfl rfl ⟨rfl, rfl, rfl, rfl, rfl⟩ rfl rfl rfl rfl rfl priceWheres_named Tryz.func8 priceWheres_facts
    priceWheres_inst priceWheres_wrap (fun os started H enc _ => priceWheres_lifted os started H enc)

theorem priceWheres_wf : OpenClaim.wfByText (OpenSpec.ofChange Rows.priceWheresSpec) Rows.priceWheresRow = true := by kernel_rfl
theorem main_is : Tryz.pinned.checked.prog.mainIs = some (true, "fd4a78dda9e3c4c42444e8171c75da0f7e25d27c3fa8e6685907fbcc17903124".toList) := by kernel_rfl
theorem looks_so : true = Tryz.pinned.checked.prog.looks [] := by kernel_rfl
theorem priceWheres_goes : false = Rows.priceWheresRow.goesBy Tryz.pinned.checked.prog := by kernel_rfl
theorem stands3 : Tryz.prog.wantsStandIn 3 = false := by kernel_rfl
theorem stands22 : Tryz.prog.wantsStandIn 22 = false := by kernel_rfl
theorem stands26 : Tryz.prog.wantsStandIn 26 = false := by kernel_rfl

set_option maxRecDepth 100000 in
/-- THE TIED CARD OF PriceWheres. -/
theorem priceWheresCard_holds : Rows.PriceWheresCardSaid :=
  Claim7.holds_tied_plain_at .later [] [.data, .data, .data, .data, .pinned] true (true, "fd4a78dda9e3c4c42444e8171c75da0f7e25d27c3fa8e6685907fbcc17903124") true
    priceWheres_holds (fun _ h => by cases h) priceWheres_wf (fun _ h => by cases h) priceWheres_row_tie rfl ⟨rfl, rfl⟩ main_is rfl
    (fun f fn hf hfn => by
      obtain rfl : f = 8 := Option.some.inj (priceWheres_named.symm.trans hf) |>.symm
      obtain rfl : fn = Tryz.f8 := (Option.some.inj (Tryz.func8.symm.trans hfn)).symm
      exact ⟨looks_so, fun j t ht => by
        rw [Tryz.params8] at ht
        rcases j with _ | _ | _ | _ | j
        · obtain rfl : t = 26 := by simpa using ht.symm
          exact stands26
        · obtain rfl : t = 3 := by simpa using ht.symm
          exact stands3
        · obtain rfl : t = 3 := by simpa using ht.symm
          exact stands3
        · obtain rfl : t = 22 := by simpa using ht.symm
          exact stands22
        · simp at ht⟩)
    priceWheres_goes
#print axioms priceWheresCard_holds
end Go.Proofs.YtfnkjclplfhjcaaGreatDoor
