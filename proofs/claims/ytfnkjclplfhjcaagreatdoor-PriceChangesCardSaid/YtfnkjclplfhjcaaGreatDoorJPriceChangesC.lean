/- PriceChanges: the row and its tied card, proved. -/
import Derived.Test.YtfnkjclplfhjcaaGreatDoorJPriceChangesA
import Derived.Test.YtfnkjclplfhjcaaGreatDoorJPriceChangesB
import Derived.Test.YtfnkjclplfhjcaaGreatDoorCards
import Derived.Test.YtfnkjclplfhjcaaGreatDoorTie
set_option linter.unusedSimpArgs false
set_option linter.unusedVariables false
namespace Go.Proofs.YtfnkjclplfhjcaaGreatDoor
open Go Go.Am Go.ChangeShapes Go.WideShapes Go.RowKit

set_option maxRecDepth 100000 in
theorem priceChanges_named : Tryz.pinned.checked.prog.funcNamed Rows.priceChangesRow.func = some 10 := by kernel_rfl
theorem priceChanges_inst : Tryz.f10.isInstance Tryz.pinned.checked.prog Rows.priceChangesRow.origin Rows.priceChangesRow.targs := of_decide_eq_true (by kernel_rfl)
theorem priceChanges_wrap : Tryz.f10.isWrapper Tryz.pinned.checked.prog Rows.priceChangesRow.wrapper Rows.priceChangesRow.mainSum := by
  unfold Func.isWrapper
  first | (rw [if_pos (by decide +kernel)]; kernel_rfl) | (rw [if_neg (by decide +kernel)]; exact ⟨rfl, rfl⟩)

set_option maxRecDepth 100000 in
theorem priceChanges_holds : Rows.PriceChangesSaid :=
  OpenClaim.holds_of_wide 10 Tryz.f10 rfl rfl rfl rfl rfl rfl rfl ⟨rfl, rfl, rfl, rfl, rfl⟩ rfl rfl rfl rfl rfl priceChanges_named Tryz.func10 priceChanges_facts
    priceChanges_inst priceChanges_wrap (fun os started H enc _ => priceChanges_lifted os started H enc)

theorem priceChanges_wf : OpenClaim.wfByText (OpenSpec.ofChange Rows.priceChangesSpec) Rows.priceChangesRow = true := by kernel_rfl
theorem main_is : Tryz.pinned.checked.prog.mainIs = some (true, "fd4a78dda9e3c4c42444e8171c75da0f7e25d27c3fa8e6685907fbcc17903124".toList) := by kernel_rfl
theorem looks_so : true = Tryz.pinned.checked.prog.looks [] := by kernel_rfl
theorem priceChanges_goes : false = Rows.priceChangesRow.goesBy Tryz.pinned.checked.prog := by kernel_rfl
theorem stands3 : Tryz.prog.wantsStandIn 3 = false := by kernel_rfl
theorem stands22 : Tryz.prog.wantsStandIn 22 = false := by kernel_rfl
theorem stands26 : Tryz.prog.wantsStandIn 26 = false := by kernel_rfl

set_option maxRecDepth 100000 in
/-- THE TIED CARD OF PriceChanges. -/
theorem priceChangesCard_holds : Rows.PriceChangesCardSaid :=
  Claim7.holds_tied_plain_at .later [] [.data, .data, .data, .data, .pinned] true (true, "fd4a78dda9e3c4c42444e8171c75da0f7e25d27c3fa8e6685907fbcc17903124") true
    priceChanges_holds (fun _ h => by cases h) priceChanges_wf (fun _ h => by cases h) priceChanges_row_tie rfl ⟨rfl, rfl⟩ main_is rfl
    (fun f fn hf hfn => by
      obtain rfl : f = 10 := Option.some.inj (priceChanges_named.symm.trans hf) |>.symm
      obtain rfl : fn = Tryz.f10 := (Option.some.inj (Tryz.func10.symm.trans hfn)).symm
      exact ⟨looks_so, fun j t ht => by
        rw [Tryz.params10] at ht
        rcases j with _ | _ | _ | _ | j
        · obtain rfl : t = 26 := by simpa using ht.symm
          exact stands26
        · obtain rfl : t = 3 := by simpa using ht.symm
          exact stands3
        · obtain rfl : t = 3 := by simpa using ht.symm
          exact stands3
        · obtain rfl : t = 22 := by simpa using ht.symm
          exact stands22
        · simp at ht⟩)
    priceChanges_goes
#print axioms priceChangesCard_holds
end Go.Proofs.YtfnkjclplfhjcaaGreatDoor
