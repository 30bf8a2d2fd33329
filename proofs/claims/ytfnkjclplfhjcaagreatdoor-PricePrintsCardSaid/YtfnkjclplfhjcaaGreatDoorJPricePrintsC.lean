/- PricePrints: the row and its tied card, proved. -/
import Derived.Test.YtfnkjclplfhjcaaGreatDoorJPricePrintsA
import Derived.Test.YtfnkjclplfhjcaaGreatDoorJPricePrintsB
import Derived.Test.YtfnkjclplfhjcaaGreatDoorCards
import Derived.Test.YtfnkjclplfhjcaaGreatDoorTie
set_option linter.unusedSimpArgs false
set_option linter.unusedVariables false
namespace Go.Proofs.YtfnkjclplfhjcaaGreatDoor
open Go Go.Am Go.ChangeShapes Go.WideShapes Go.RowKit

set_option maxRecDepth 100000 in
theorem pricePrints_named : Tryz.pinned.checked.prog.funcNamed Rows.pricePrintsRow.func = some 19 := by kernel_rfl
theorem pricePrints_inst : Tryz.f19.isInstance Tryz.pinned.checked.prog Rows.pricePrintsRow.origin Rows.pricePrintsRow.targs := of_decide_eq_true (by kernel_rfl)
theorem pricePrints_wrap : Tryz.f19.isWrapper Tryz.pinned.checked.prog Rows.pricePrintsRow.wrapper Rows.pricePrintsRow.mainSum := by
  unfold Func.isWrapper
  first | (rw [if_pos (by decide +kernel)]; kernel_rfl) | (rw [if_neg (by decide +kernel)]; exact ⟨rfl, rfl⟩)

set_option maxRecDepth 100000 in
theorem pricePrints_holds : Rows.PricePrintsSaid :=
  OpenClaim.holds_of_wide 19 Tryz.f19 rfl rfl rfl rfl rfl rfl rfl ⟨rfl, rfl, rfl, rfl, rfl⟩ rfl rfl rfl rfl rfl pricePrints_named Tryz.func19 pricePrints_facts
    pricePrints_inst pricePrints_wrap (fun os started H enc _ => pricePrints_lifted os started H enc)

theorem pricePrints_wf : OpenClaim.wfByText (OpenSpec.ofChange Rows.pricePrintsSpec) Rows.pricePrintsRow = true := by kernel_rfl
theorem main_is : Tryz.pinned.checked.prog.mainIs = some (true, "fd4a78dda9e3c4c42444e8171c75da0f7e25d27c3fa8e6685907fbcc17903124".toList) := by kernel_rfl
theorem looks_so : true = Tryz.pinned.checked.prog.looks [] := by kernel_rfl
theorem pricePrints_goes : false = Rows.pricePrintsRow.goesBy Tryz.pinned.checked.prog := by kernel_rfl
theorem stands26 : Tryz.prog.wantsStandIn 26 = false := by kernel_rfl

set_option maxRecDepth 100000 in
/-- THE TIED CARD OF PricePrints. -/
theorem pricePrintsCard_holds : Rows.PricePrintsCardSaid :=
  Claim7.holds_tied_plain_at .later [] [.data, .data, .data, .data, .pinned] true (true, "fd4a78dda9e3c4c42444e8171c75da0f7e25d27c3fa8e6685907fbcc17903124") true
    pricePrints_holds (fun _ h => by cases h) pricePrints_wf (fun _ h => by cases h) pricePrints_row_tie rfl ⟨rfl, rfl⟩ main_is rfl
    (fun f fn hf hfn => by
      obtain rfl : f = 19 := Option.some.inj (pricePrints_named.symm.trans hf) |>.symm
      obtain rfl : fn = Tryz.f19 := (Option.some.inj (Tryz.func19.symm.trans hfn)).symm
      exact ⟨looks_so, fun j t ht => by
        rw [Tryz.params19] at ht
        rcases j with _ | j
        · obtain rfl : t = 26 := by simpa using ht.symm
          exact stands26
        · simp at ht⟩)
    pricePrints_goes
#print axioms pricePrintsCard_holds
end Go.Proofs.YtfnkjclplfhjcaaGreatDoor
