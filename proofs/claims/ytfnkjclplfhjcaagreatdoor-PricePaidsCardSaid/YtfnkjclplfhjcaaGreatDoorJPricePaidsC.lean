/- PricePaids: the row and its tied card, proved. -/
import Derived.Test.YtfnkjclplfhjcaaGreatDoorJPricePaidsA
import Derived.Test.YtfnkjclplfhjcaaGreatDoorJPricePaidsB
import Derived.Test.YtfnkjclplfhjcaaGreatDoorCards
import Derived.Test.YtfnkjclplfhjcaaGreatDoorTie
set_option linter.unusedSimpArgs false
set_option linter.unusedVariables false
namespace Go.Proofs.YtfnkjclplfhjcaaGreatDoor
open Go Go.Am Go.ChangeShapes Go.WideShapes Go.RowKit

set_option maxRecDepth 100000 in
theorem pricePaids_named : Tryz.pinned.checked.prog.funcNamed Rows.pricePaidsRow.func = some 18 := by kernel_rfl
theorem pricePaids_inst : Tryz.f18.isInstance Tryz.pinned.checked.prog Rows.pricePaidsRow.origin Rows.pricePaidsRow.targs := of_decide_eq_true (by kernel_rfl)
theorem pricePaids_wrap : Tryz.f18.isWrapper Tryz.pinned.checked.prog Rows.pricePaidsRow.wrapper Rows.pricePaidsRow.mainSum := by
  unfold Func.isWrapper
  first | (rw [if_pos (by decide +kernel)]; kernel_rfl) | (rw [if_neg (by decide +kernel)]; exact ⟨rfl, rfl⟩)

set_option maxRecDepth 100000 in
theorem pricePaids_holds : Rows.PricePaidsSaid :=
  OpenClaim.holds_of_wide 18 Tryz.f18 rfl rfl rfl rfl rfl rfl rfl ⟨rfl, rfl, rfl, rfl, rfl⟩ rfl rfl rfl rfl rfl pricePaids_named Tryz.func18 pricePaids_facts
    pricePaids_inst pricePaids_wrap (fun os started H enc _ => pricePaids_lifted os started H enc)

theorem pricePaids_wf : OpenClaim.wfByText (OpenSpec.ofChange Rows.pricePaidsSpec) Rows.pricePaidsRow = true := by kernel_rfl
theorem main_is : Tryz.pinned.checked.prog.mainIs = some (true, "fd4a78dda9e3c4c42444e8171c75da0f7e25d27c3fa8e6685907fbcc17903124".toList) := by kernel_rfl
theorem looks_so : true = Tryz.pinned.checked.prog.looks [] := by kernel_rfl
theorem pricePaids_goes : false = Rows.pricePaidsRow.goesBy Tryz.pinned.checked.prog := by kernel_rfl
theorem stands3 : Tryz.prog.wantsStandIn 3 = false := by kernel_rfl
theorem stands22 : Tryz.prog.wantsStandIn 22 = false := by kernel_rfl
theorem stands26 : Tryz.prog.wantsStandIn 26 = false := by kernel_rfl

set_option maxRecDepth 100000 in
/-- THE TIED CARD OF PricePaids. -/
theorem pricePaidsCard_holds : Rows.PricePaidsCardSaid :=
  Claim7.holds_tied_plain_at .later [] [.data, .data, .data, .data, .pinned] true (true, "fd4a78dda9e3c4c42444e8171c75da0f7e25d27c3fa8e6685907fbcc17903124") true
    pricePaids_holds (fun _ h => by cases h) pricePaids_wf (fun _ h => by cases h) pricePaids_row_tie rfl ⟨rfl, rfl⟩ main_is rfl
    (fun f fn hf hfn => by
      obtain rfl : f = 18 := Option.some.inj (pricePaids_named.symm.trans hf) |>.symm
      obtain rfl : fn = Tryz.f18 := (Option.some.inj (Tryz.func18.symm.trans hfn)).symm
      exact ⟨looks_so, fun j t ht => by
        rw [Tryz.params18] at ht
        rcases j with _ | _ | _ | j
        · obtain rfl : t = 26 := by simpa using ht.symm
          exact stands26
        · obtain rfl : t = 3 := by simpa using ht.symm
          exact stands3
        · obtain rfl : t = 22 := by simpa using ht.symm
          exact stands22
        · simp at ht⟩)
    pricePaids_goes
#print axioms pricePaidsCard_holds
end Go.Proofs.YtfnkjclplfhjcaaGreatDoor
